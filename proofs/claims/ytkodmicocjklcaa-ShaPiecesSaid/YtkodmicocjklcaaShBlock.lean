/- rhzref8.block: what the call comes to. -/
import Derived.Test.YtkodmicocjklcaaShPrimes
namespace Go.Proofs.Ytkodmicocjklcaa
open Go.RowKit

theorem own_cellU {w : World} {base g n cap : Nat} {e : TypeId} {xs : List (BitVec 64)} (h : w.ownsRow base e 1 (.slice (some ⟨g, 0, none⟩) n cap) n (us xs)) (i : Nat) (hi : i < n) : w.cell? ⟨g, i, none⟩ = some (.int .u64 ((xs.getD i 0).toNat : Int)) := by
  have hl : xs.length = n := by have := h.1; simpa [us] using this
  have hc := h.cells (g := g) rfl i (.int .u64 ((xs.getD i 0).toNat : Int)) (by simp [us, U, show i < xs.length by omega, List.getD_eq_getElem?_getD])
  rwa [Addr.add_lit, Nat.zero_add] at hc
theorem us_set (l : List (BitVec 64)) (i : Nat) (x : BitVec 64) : (us l).set i (.int .u64 (x.toNat : Int)) = us (l.set i x) := by simp [us, U, List.map_set]
theorem own_putU {w : World} {base g n cap : Nat} {e : TypeId} {xs : List (BitVec 64)} (h : w.ownsRow base e 1 (.slice (some ⟨g, 0, none⟩) n cap) n (us xs)) (i : Nat) (hi : i < n) (z : Int) (x : BitVec 64) (hz : z = (x.toNat : Int)) : (w.setCell ⟨g, i, none⟩ (.int .u64 z)).ownsRow base e 1 (.slice (some ⟨g, 0, none⟩) n cap) n (us (xs.set i x)) := by
  subst hz
  rw [← us_set]
  exact own_put h i hi _
theorem u_shr7 (x : BitVec 64) : (x.toNat : Int) / (128 : Int) = ((x >>> 7).toNat : Int) := u_shr x 7
theorem u_shr6 (x : BitVec 64) : (x.toNat : Int) / (64 : Int) = ((x >>> 6).toNat : Int) := u_shr x 6
theorem us_ints (l : List (BitVec 64)) : us l = ints .u64 (l.map fun x => (x.toNat : Int)) := by simp [us, U, ints]
theorem own_form {w : World} {base n : Nat} {e : TypeId} {v : Value} {xs : List Value} (h : w.ownsRow base e 1 v n xs) (hn : 0 < n) : ∃ g c, v = .slice (some ⟨g, 0, none⟩) n c ∧ base ≤ g := by
  rcases h.2 with ⟨h1, h2⟩ | ⟨g, cap, cur, h1, h2, _⟩
  · omega
  · exact ⟨g, cap, h1, h2⟩
theorem own_cap {w : World} {base n : Nat} {e : TypeId} {v : Value} {xs : List Value} (h : w.ownsRow base e 1 v n xs) (hn : 0 < n) : ∀ g c, v = .slice (some ⟨g, 0, none⟩) n c → n ≤ c := fun g c hv => by
  rcases h.2 with ⟨h1, h2⟩ | ⟨g', cap, cur, h1, h2, h3, h4, _⟩
  · omega
  · rw [hv] at h1
    simp only [Value.slice.injEq] at h1
    omega
theorem own_srcU {P : Program} {w : World} {base n c : Nat} {e tx e' : TypeId} {A : Option Addr} {xs : List (BitVec 64)} (h : w.ownsRow base e 1 (.slice A n c) n (us xs)) (hk : P.underlying tx = some (.slice e')) : Src P 1 tx (.slice A n c) n (us xs) w := by
  have hl : xs.length = n := by have := h.1; simpa [us] using this
  rw [us_ints] at h ⊢
  obtain ⟨A', c', hv, hi⟩ := Ints.own h
  simp only [Value.slice.injEq] at hv
  obtain ⟨rfl, h2, rfl⟩ := hv
  have := Ints.src (P := P) hi hk c
  rwa [← h2] at this
/-- Eight words that lie in a block. -/
def V8 (w : World) (g : Nat) (V : List (BitVec 64)) : Prop := ∀ j, j < 8 → w.cell? ⟨g, j, none⟩ = some (.int .u64 ((V.getD j 0).toNat : Int))
theorem V8.below {w w1 : World} {g : Nat} {V : List (BitVec 64)} (h : V8 w g V) (hb : Below w.heap.size w w1) : V8 w1 g V := fun j hj => (hb.cell (World.block_lt_of_cell? w _ (h j hj))).trans (h j hj)
theorem V8.lit (w : World) (t : TypeId) (V : List (BitVec 64)) (hV : V.length = 8) (c : Array Value) (hc : c = (us V).toArray) : V8 (w.alloc (.cells c t)) w.heap.size V := fun j hj => by
  subst hc
  exact us_cell (heap_alloc_new w _) j (by omega)
theorem rnd_ref (k w a b c d e f g h : BitVec 64) : rnd k w [a, b, c, d, e, f, g, h] =
    [h + (R 14 e ^^^ R 18 e ^^^ R 41 e) + ((e &&& f) ^^^ (~~~e &&& g)) + k + w + (R 28 a ^^^ R 34 a ^^^ R 39 a) + (((a &&& b) ^^^ (a &&& c)) ^^^ (b &&& c)), a, b, c,
     d + (h + (R 14 e ^^^ R 18 e ^^^ R 41 e) + ((e &&& f) ^^^ (~~~e &&& g)) + k + w), e, f, g] := by
  rw [rnd, BitVec.add_assoc (h + (R 14 e ^^^ R 18 e ^^^ R 41 e) + ((e &&& f) ^^^ (~~~e &&& g)) + k + w)]

set_option maxRecDepth 100000 in
set_option maxHeartbeats 8000000 in
theorem block_any (gh ch gk ck : Nat) (A : Option Addr) (b : List Int) (c : Nat) (w : World) (H : List (BitVec 64)) (hH : H.length = 8) (hl : b.length = 128) (hb : Byt b) (hc : 128 ≤ c) (hA : Ints .u8 w A b)
    (hh : w.ownsRow 0 40 1 (.slice (some ⟨gh, 0, none⟩) 8 ch) 8 (us H)) (hk : w.ownsRow 0 40 1 (.slice (some ⟨gk, 0, none⟩) 80 ck) 80 (us constL)) :
    Calls Try.prog 21 #[.slice (some ⟨gh, 0, none⟩) 8 ch, .slice (some ⟨gk, 0, none⟩) 80 ck, .slice A 128 c] w fun e w' => e = .returned (.tuple #[]) ∧ w'.ownsRow 0 40 1 (.slice (some ⟨gh, 0, none⟩) 8 ch) 8 (us (mixF H b)) ∧ Tch gh none w w' := by
  obtain ⟨i0, i1, hz0, hz1, hz2⟩ := info_parts (show (Try.prog.info? 40).map (fun i => (i.zero, i.size, i.bytes)) = some (some (.int .u64 0), 1, 8) by kernel_rfl)
  have hmk := run_make_ints (P := Try.prog) w 38 40 .u64 8 Try.underlying38 i1 hz0 hz1 hz2 80 (by omega) (by omega)
  rw [us_zeros] at hmk
  simp only [Int.cast_ofNat_Int] at hmk
  rw [show List.replicate 80 (0 : BitVec 64) = zerosB from rfl] at hmk
  obtain ⟨bb, off, rfl, hcx⟩ := hA (by intro h; rw [h] at hl; simp at hl)
  have HC := Lib.hid hcx
  have HBB := Lib.hid hb
  have HLB := Lib.hid hl
  have hbk : bb < w.heap.size := World.block_lt_of_cell? w _ (hcx 0 (by omega))
  have HHH := Lib.hid hh
  have HKK := Lib.hid hk
  have HHL := Lib.hid hH
  have hgh : gh < w.heap.size := (World.ownsRow.lt hh gh rfl).2
  generalize hF : mixF H b = F
  have HF := Lib.hid (And.intro hF trivial)
  have HB1 := Lib.hid ((Below.refl w.heap.size w).alloc (Nat.le_refl _) (.cells (us zerosB).toArray 40))
  have HG1 := Lib.hid (heap_alloc_new w (.cells (us zerosB).toArray 40))
  clear hA hcx hb hl hh hk hH hF
  go_enter Try.func21, Try.ntmps21
  go_wp2
  clear hmk
  generalize w.alloc (.cells (us zerosB).toArray 40) = w1 at HB1 HG1 ⊢
  generalize hT : wOut b 16 0 zerosB = T
  have HT := Lib.hid (And.intro hT trivial)
  clear hT
  go_loopw [7] (fun vi wr => ∃ (i : Nat) (L : List (BitVec 64)), i ≤ 16 ∧ vi = .int .i64 i ∧ Hid (L.length = 80) ∧ Hid (wOut b (16 - i) i L = T ∧ True) ∧ Hid (wr.heap[w.heap.size]? = some (.cells (us L).toArray 40)) ∧ Hid (Below w.heap.size w wr)) (fun vi _ => 16 - (intOf vi).toNat)
  case atStart => exact ⟨0, zerosB, by omega, rfl, Lib.hid zerosB_len, HT, HG1, HB1⟩
  case round =>
    clear HB1 HG1
    obtain ⟨i, L, hi, rfl, hL, hO, hg, hB⟩ := hrel
    by_cases hlt : i < 16
    · have HI0 := Lib.hid (show wOut b (16 - i) i L = wOut b (16 - (i + 1)) (i + 1) (wIn b i 8 0 L) by rw [show 16 - i = (16 - (i + 1)) + 1 by omega]; rfl)
      generalize hWI : wIn b i 8 0 L = LI at HI0
      have HWI := Lib.hid (And.intro hWI trivial)
      have hkb : decide ((i : Int) < 16) = true := decide_eq_true (by omega)
      clear hWI
      go_wp2
      go_loopw [8] (fun vj wq => ∃ (j : Nat) (M : List (BitVec 64)), j ≤ 8 ∧ vj = .int .i64 j ∧ Hid (M.length = 80) ∧ Hid (wIn b i (8 - j) j M = LI ∧ True) ∧ Hid (wq.heap[w.heap.size]? = some (.cells (us M).toArray 40)) ∧ Hid (Below w.heap.size w wq)) (fun vj _ => 8 - (intOf vj).toNat)
      case atStart => exact ⟨0, L, by omega, rfl, hL, HWI, hg, hB⟩
      case round =>
        clear hg hB hL
        obtain ⟨j, M, hj, rfl, hM, hW, hg, hB⟩ := hrel
        by_cases hjl : j < 8
        · have hx1 := (hB.out.cell hbk).trans (HC.out (8 * i + j) (by rw [HLB.out]; omega))
          have hy := HBB.out (b.getD (8 * i + j) 0) (by rw [List.getD_eq_getElem?_getD, List.getElem?_eq_getElem (by rw [HLB.out]; omega)]; exact List.getElem_mem _)
          have hc1 := us_cell hg.out i (by rw [hM.out]; omega)
          have HU := Lib.hid (u_byte (M.getD i 0) (b.getD (8 * i + j) 0) hy.1 hy.2)
          have HNX := Lib.hid (show wIn b i (8 - j) j M = wIn b i (8 - (j + 1)) (j + 1) (M.set i ((M.getD i 0) <<< 8 ||| BitVec.ofInt 64 (b.getD (8 * i + j) 0))) ∧ True from ⟨by rw [show 8 - j = (8 - (j + 1)) + 1 by omega]; rfl, trivial⟩)
          generalize b.getD (8 * i + j) 0 = y at hx1 hy HU HNX
          generalize (M.getD i 0) <<< 8 ||| BitVec.ofInt 64 y = z at HU HNX
          generalize (M.getD i 0).toNat = m at hc1 HU
          obtain ⟨hy0, hy1⟩ := hy
          have p0 : (0 : Int) ≤ (i : Int) := by omega
          have q0 : (i : Int) < 80 := by omega
          have e1 : IntKind.i64.wrap (8 * (i : Int)) = 8 * (i : Int) := IntWalk.i64_in _ (by omega)
          have e2 : IntKind.i64.wrap (8 * (i : Int) + (j : Int)) = 8 * (i : Int) + (j : Int) := IntWalk.i64_in _ (by omega)
          have p1 : (0 : Int) ≤ 8 * (i : Int) + (j : Int) := by omega
          have q1 : 8 * (i : Int) + (j : Int) < 128 := by omega
          have t1 : (8 * (i : Int) + (j : Int)).toNat = 8 * i + j := by omega
          go_wp2
          go_still_tail 17, (by kernel_rfl)
          change wpList _ _ _ _ _ wr.drew
          have hg5 := Lib.hid (show wr.drew.heap[w.heap.size]? = some (.cells (us M).toArray 40) from hg.out)
          have hB5 := Lib.hid (hB.out.trans (show Below w.heap.size wr wr.drew from ⟨rfl, rfl, rfl, Nat.le_refl _, fun _ _ => rfl⟩))
          have hc5 : wr.drew.cell? ⟨w.heap.size, i, none⟩ = some (.int .u64 (m : Int)) := hc1
          clear hg hB hc1 hx1
          generalize wr.drew = w5 at hg5 hB5 hc5 ⊢
          have hf5 := blk_free hg5.out i
          clear e1 e2 p0 q0 p1 q1 t1
          go_wp2
          go_roundw
          case rel =>
            exact ⟨j + 1, M.set i z, by omega, by go_num, Lib.hid (by rw [List.length_set]; exact hM.out), Lib.hid ⟨HNX.out.1.symm.trans hW.out.1, trivial⟩, Lib.hid (us_put2 hg5.out i _ z HU.out), Lib.hid (hB5.out.setCell (Nat.le_refl _) _)⟩
          case measure => (simp [intOf] <;> omega)
        · obtain rfl : j = 8 := by omega
          have hMI : M = LI := hW.out.1
          subst hMI
          go_wp2
          go_roundw
          case rel => exact ⟨i + 1, M, by omega, by go_num, hM, Lib.hid ⟨by rw [← HI0.out]; exact hO.out.1, trivial⟩, hg, hB⟩
          case measure => (simp [intOf] <;> omega)
    · obtain rfl : i = 16 := by omega
      have hLT : L = T := hO.out.1
      subst hLT
      have HM0 := Lib.hid (show mixF H b = addV (mixV (wExt 64 16 L) 80 0 H) 8 0 H by rw [mixF, wordsF, HT.out.1])
      generalize hX : wExt 64 16 L = X at HM0
      have HX := Lib.hid (And.intro hX trivial)
      clear HT hO hX
      simp only [Int.cast_ofNat_Int]
      go_wp2
      go_loopw [9] (fun vi wq => ∃ (k : Nat) (M : List (BitVec 64)), k ≤ 64 ∧ vi = .int .i64 ((k : Int) + 16) ∧ Hid (M.length = 80) ∧ Hid (wExt (64 - k) (k + 16) M = X ∧ True) ∧ Hid (wq.heap[w.heap.size]? = some (.cells (us M).toArray 40)) ∧ Hid (Below w.heap.size w wq)) (fun vi _ => 80 - (intOf vi).toNat)
      case atStart => exact ⟨0, L, by omega, rfl, hL, HX, hg, hB⟩
      case round =>
        clear hg hB hL HX
        obtain ⟨k, M, hk, rfl, hM, hX, hg, hB⟩ := hrel
        by_cases hkl : k < 64
        · have HNX := Lib.hid (And.intro (wExt_next M k hkl) trivial)
          obtain ⟨x0, hx0⟩ : ∃ x, M.getD k 0 = x := ⟨_, rfl⟩
          obtain ⟨x1, hx1⟩ : ∃ x, M.getD (k + 1) 0 = x := ⟨_, rfl⟩
          obtain ⟨x9, hx9⟩ : ∃ x, M.getD (k + 9) 0 = x := ⟨_, rfl⟩
          obtain ⟨x14, hx14⟩ : ∃ x, M.getD (k + 14) 0 = x := ⟨_, rfl⟩
          rw [hx0, hx1, hx9, hx14] at HNX
          have H0 := Lib.hid hx0
          have H1 := Lib.hid hx1
          have H9 := Lib.hid hx9
          have H14 := Lib.hid hx14
          clear hx0 hx1 hx9 hx14
          have c1 : wr.cell? ⟨w.heap.size, k + 1, none⟩ = some (.int .u64 (x1.toNat : Int)) := by rw [← H1.out]; exact us_cell hg.out (k + 1) (by rw [hM.out]; omega)
          have c2 : wr.cell? ⟨w.heap.size, k + 14, none⟩ = some (.int .u64 (x14.toNat : Int)) := by rw [← H14.out]; exact us_cell hg.out (k + 14) (by rw [hM.out]; omega)
          have c3 : wr.cell? ⟨w.heap.size, k, none⟩ = some (.int .u64 (x0.toNat : Int)) := by rw [← H0.out]; exact us_cell hg.out k (by rw [hM.out]; omega)
          have c4 : wr.cell? ⟨w.heap.size, k + 9, none⟩ = some (.int .u64 (x9.toNat : Int)) := by rw [← H9.out]; exact us_cell hg.out (k + 9) (by rw [hM.out]; omega)
          have e1 : IntKind.i64.wrap ((k : Int) + 16 - 15) = (k : Int) + 1 := by rw [IntWalk.i64_in _ (by omega)]; omega
          have e2 : IntKind.i64.wrap ((k : Int) + 16 - 2) = (k : Int) + 14 := by rw [IntWalk.i64_in _ (by omega)]; omega
          have e3 : IntKind.i64.wrap (k : Int) = (k : Int) := IntWalk.i64_in _ (by omega)
          have e4 : IntKind.i64.wrap ((k : Int) + 16 - 7) = (k : Int) + 9 := by rw [IntWalk.i64_in _ (by omega)]; omega
          have p0 : (0 : Int) ≤ (k : Int) := by omega
          have p1 : (0 : Int) ≤ (k : Int) + 1 := by omega
          have p2 : (0 : Int) ≤ (k : Int) + 14 := by omega
          have p4 : (0 : Int) ≤ (k : Int) + 9 := by omega
          have q0 : (k : Int) < 80 := by omega
          have q1 : (k : Int) + 1 < 80 := by omega
          have q2 : (k : Int) + 14 < 80 := by omega
          have q4 : (k : Int) + 9 < 80 := by omega
          have t1 : ((k : Int) + 1).toNat = k + 1 := by omega
          have t2 : ((k : Int) + 14).toNat = k + 14 := by omega
          have q16 : (k : Int) + 16 < 80 := by omega
          have p16 : (0 : Int) ≤ (k : Int) + 16 := by omega
          have t16 : ((k : Int) + 16).toNat = k + 16 := by omega
          have t4 : ((k : Int) + 9).toNat = k + 9 := by omega
          go_wp2
          go_quiet ((go_at_call 29; exact quiet_any (refTurn_i _ _ (by omega) (by omega) _)))
          have hg' := Lib.hid (show (wr.drewN nq).heap[w.heap.size]? = some (.cells (us M).toArray 40) from hg.out)
          have hB' := Lib.hid (below_drewN hB.out nq)
          clear hg hB c1 c2 c3 c4
          generalize wr.drewN nq = wr at hg' hB' ⊢
          have hg := hg'
          have hB := hB'
          clear hg' hB'
          have c1 : wr.cell? ⟨w.heap.size, k + 1, none⟩ = some (.int .u64 (x1.toNat : Int)) := by rw [← H1.out]; exact us_cell hg.out (k + 1) (by rw [hM.out]; omega)
          have c2 : wr.cell? ⟨w.heap.size, k + 14, none⟩ = some (.int .u64 (x14.toNat : Int)) := by rw [← H14.out]; exact us_cell hg.out (k + 14) (by rw [hM.out]; omega)
          have c3 : wr.cell? ⟨w.heap.size, k, none⟩ = some (.int .u64 (x0.toNat : Int)) := by rw [← H0.out]; exact us_cell hg.out k (by rw [hM.out]; omega)
          have c4 : wr.cell? ⟨w.heap.size, k + 9, none⟩ = some (.int .u64 (x9.toNat : Int)) := by rw [← H9.out]; exact us_cell hg.out (k + 9) (by rw [hM.out]; omega)
          simp only [Int.reduceToNat, u_xor, u_shr7]
          rw [show R 1 x1 ^^^ R 8 x1 ^^^ x1 >>> 7 = sig0 x1 from rfl]
          generalize sig0 x1 = s at HNX ⊢
          go_wp2
          go_quiet ((go_at_call 29; exact quiet_any (refTurn_i _ _ (by omega) (by omega) _)))
          have hg' := Lib.hid (show (wr.drewN nq).heap[w.heap.size]? = some (.cells (us M).toArray 40) from hg.out)
          have hB' := Lib.hid (below_drewN hB.out nq)
          clear hg hB c1 c2 c3 c4
          generalize wr.drewN nq = wr at hg' hB' ⊢
          have hg := hg'
          have hB := hB'
          clear hg' hB'
          have c1 : wr.cell? ⟨w.heap.size, k + 1, none⟩ = some (.int .u64 (x1.toNat : Int)) := by rw [← H1.out]; exact us_cell hg.out (k + 1) (by rw [hM.out]; omega)
          have c2 : wr.cell? ⟨w.heap.size, k + 14, none⟩ = some (.int .u64 (x14.toNat : Int)) := by rw [← H14.out]; exact us_cell hg.out (k + 14) (by rw [hM.out]; omega)
          have c3 : wr.cell? ⟨w.heap.size, k, none⟩ = some (.int .u64 (x0.toNat : Int)) := by rw [← H0.out]; exact us_cell hg.out k (by rw [hM.out]; omega)
          have c4 : wr.cell? ⟨w.heap.size, k + 9, none⟩ = some (.int .u64 (x9.toNat : Int)) := by rw [← H9.out]; exact us_cell hg.out (k + 9) (by rw [hM.out]; omega)
          simp only [Int.reduceToNat, u_xor, u_shr6]
          rw [show R 19 x14 ^^^ R 61 x14 ^^^ x14 >>> 6 = sig1 x14 from rfl]
          generalize sig1 x14 = t at HNX ⊢
          go_wp2
          go_still_tail 18, (by kernel_rfl)
          change wpList _ _ _ _ _ wr.drew
          have hg5 := Lib.hid (show wr.drew.heap[w.heap.size]? = some (.cells (us M).toArray 40) from hg.out)
          have hB5 := Lib.hid (hB.out.trans (show Below w.heap.size wr wr.drew from ⟨rfl, rfl, rfl, Nat.le_refl _, fun _ _ => rfl⟩))
          have hc5 : wr.drew.cell? ⟨w.heap.size, k + 16, none⟩ = some (.int .u64 ((M.getD (k + 16) 0).toNat : Int)) := us_cell hg.out (k + 16) (by rw [hM.out]; omega)
          generalize ((M.getD (k + 16) 0).toNat : Int) = vd at hc5
          clear hg hB c1 c2 c3 c4
          generalize wr.drew = w5 at hg5 hB5 hc5 ⊢
          have hf5 := blk_free hg5.out (k + 16)
          clear e1 e2 e3 e4 t1 t2 t4 p0 p1 p2 p4 q0 q1 q2 q4
          go_wp2
          clear t16 q16 p16
          go_roundw
          case rel =>
            exact ⟨k + 1, M.set (k + 16) (x0 + s + x9 + t), by omega, by go_num, Lib.hid (by rw [List.length_set]; exact hM.out), Lib.hid ⟨HNX.out.1.symm.trans hX.out.1, trivial⟩, Lib.hid (us_put2 hg5.out (k + 16) _ _ (by simp only [u_add])), Lib.hid (hB5.out.setCell (Nat.le_refl _) _)⟩
          case measure => (simp [intOf] <;> omega)
        · obtain rfl : k = 64 := by omega
          obtain rfl : M = X := hX.out.1
          clear hX
          simp only [Int.cast_ofNat_Int, Int.reduceAdd]
          go_wp2_with (at_builtin; refine wp_append_src (w0 := w) w.heap.size 1 8 (.tmp 108) (.tmp 109) 38 38 40 rfl rfl Try.underlying38 i1 hz0 hz1 hz2 rfl (by decide) (n := 0) (xs := us []) (World.ownsRow_lit wr #[] 0 hB.out.size (Nat.zero_le _) rfl) rfl (own_srcU (own_below HHH.out (hB.out.alloc hB.out.size _)) Try.underlying38) rfl (by unfold maxLen; omega) (by omega) (hB.out.alloc hB.out.size _) (by have := hB.out.size; simp; omega) (Nat.le_refl _) ?_; intro vv w3 ho3 hb3 hg3 _; have hcv := own_cap ho3 (by omega); obtain ⟨gv, cv, hvv, hgv⟩ := own_form ho3 (by omega); rw [Nat.zero_add] at hvv; subst hvv; replace hcv := hcv gv cv (by simp); have HO3 := Lib.hid ho3; have HB3 := Lib.hid hb3; have HG3 := Lib.hid (show w3.heap[w.heap.size]? = some (.cells (us M).toArray 40) from blk_grown (blk_alloc hg.out _) hg3 (by simp [Value.ownBlock]; have := (Array.getElem?_eq_some_iff.1 hg.out).1; omega)); clear ho3 hb3 hg3)
          have HV3 := Lib.hid (show V8 w3 gv H from fun j hj => own_cellU (by simpa [us] using HO3.out) j hj)
          generalize hY : mixV M 80 0 H = Y
          have HY := Lib.hid (And.intro hY trivial)
          have HFY := Lib.hid (show addV Y 8 0 H = F ∧ True from ⟨by rw [← hY, ← HM0.out]; exact HF.out.1, trivial⟩)
          have HYL := Lib.hid (show Y.length = 8 by rw [← hY, mixV_len]; exact HHL.out)
          clear hY hg hB HO3 HM0
          go_loopw [12, 13] (fun vv vi wq => ∃ (i : Nat) (V : List (BitVec 64)) (gv cv : Nat), i ≤ 80 ∧ vi = .int .i64 i ∧ vv = .slice (some ⟨gv, 0, none⟩) 8 cv ∧ w.heap.size ≤ gv ∧ 8 ≤ cv ∧ Hid (V.length = 8) ∧ Hid (mixV M (80 - i) i V = Y ∧ True) ∧ Hid (wq.heap[w.heap.size]? = some (.cells (us M).toArray 40)) ∧ Hid (V8 wq gv V) ∧ Hid (Below w.heap.size w wq)) (fun _ vi _ => 80 - (intOf vi).toNat)
          case atStart => exact ⟨0, H, gv, cv, by omega, rfl, rfl, hgv, hcv, HHL, HY, HG3, HV3, HB3⟩
          case round =>
            clear HG3 HV3 HB3 HY hgv hcv
            obtain ⟨i, V, gv, cv, hi, rfl, rfl, hgv, hcv, hV, hX, hg, HV8, hB⟩ := hrel
            by_cases hlt3 : i < 80
            · obtain ⟨v0, v1, v2, v3, v4, v5, v6, v7, rfl⟩ := len8 hV.out
              have p0 : (0 : Int) ≤ (i : Int) := by omega
              have q0 : (i : Int) < 80 := by omega
              obtain ⟨wi, hwi⟩ : ∃ x, M.getD i 0 = x := ⟨_, rfl⟩
              obtain ⟨ki, hki⟩ : ∃ x, constL.getD i 0 = x := ⟨_, rfl⟩
              have HWI := Lib.hid hwi
              have HKI := Lib.hid hki
              clear hwi hki
              have c0 : wr.cell? ⟨gv, 0, none⟩ = some (.int .u64 (v0.toNat : Int)) := HV8.out 0 (by omega)
              have c1 : wr.cell? ⟨gv, 1, none⟩ = some (.int .u64 (v1.toNat : Int)) := HV8.out 1 (by omega)
              have c2 : wr.cell? ⟨gv, 2, none⟩ = some (.int .u64 (v2.toNat : Int)) := HV8.out 2 (by omega)
              have c3 : wr.cell? ⟨gv, 3, none⟩ = some (.int .u64 (v3.toNat : Int)) := HV8.out 3 (by omega)
              have c4 : wr.cell? ⟨gv, 4, none⟩ = some (.int .u64 (v4.toNat : Int)) := HV8.out 4 (by omega)
              have c5 : wr.cell? ⟨gv, 5, none⟩ = some (.int .u64 (v5.toNat : Int)) := HV8.out 5 (by omega)
              have c6 : wr.cell? ⟨gv, 6, none⟩ = some (.int .u64 (v6.toNat : Int)) := HV8.out 6 (by omega)
              have c7 : wr.cell? ⟨gv, 7, none⟩ = some (.int .u64 (v7.toNat : Int)) := HV8.out 7 (by omega)
              have cw : wr.cell? ⟨w.heap.size, i, none⟩ = some (.int .u64 (wi.toNat : Int)) := by rw [← HWI.out]; exact us_cell hg.out i (by rw [hM.out]; omega)
              have ck : wr.cell? ⟨gk, i, none⟩ = some (.int .u64 (ki.toNat : Int)) := by rw [← HKI.out]; exact own_cellU (own_below HKK.out hB.out) i (by omega)
              go_wp2
              go_quiet ((go_at_call 29; exact quiet_any (refTurn_i _ _ (by omega) (by omega) _)))
              have hg' := Lib.hid (show (wr.drewN nq).heap[w.heap.size]? = some (.cells (us M).toArray 40) from hg.out)
              have hB' := Lib.hid (below_drewN hB.out nq)
              have hV' := Lib.hid (show V8 (wr.drewN nq) gv [v0, v1, v2, v3, v4, v5, v6, v7] from HV8.out)
              clear hg hB HV8 c0 c1 c2 c3 c4 c5 c6 c7 cw ck
              generalize wr.drewN nq = wr at hg' hB' hV' ⊢
              have hg := hg'
              have hB := hB'
              have HV8 := hV'
              clear hg' hB' hV'
              have c0 : wr.cell? ⟨gv, 0, none⟩ = some (.int .u64 (v0.toNat : Int)) := HV8.out 0 (by omega)
              have c1 : wr.cell? ⟨gv, 1, none⟩ = some (.int .u64 (v1.toNat : Int)) := HV8.out 1 (by omega)
              have c2 : wr.cell? ⟨gv, 2, none⟩ = some (.int .u64 (v2.toNat : Int)) := HV8.out 2 (by omega)
              have c3 : wr.cell? ⟨gv, 3, none⟩ = some (.int .u64 (v3.toNat : Int)) := HV8.out 3 (by omega)
              have c4 : wr.cell? ⟨gv, 4, none⟩ = some (.int .u64 (v4.toNat : Int)) := HV8.out 4 (by omega)
              have c5 : wr.cell? ⟨gv, 5, none⟩ = some (.int .u64 (v5.toNat : Int)) := HV8.out 5 (by omega)
              have c6 : wr.cell? ⟨gv, 6, none⟩ = some (.int .u64 (v6.toNat : Int)) := HV8.out 6 (by omega)
              have c7 : wr.cell? ⟨gv, 7, none⟩ = some (.int .u64 (v7.toNat : Int)) := HV8.out 7 (by omega)
              have cw : wr.cell? ⟨w.heap.size, i, none⟩ = some (.int .u64 (wi.toNat : Int)) := by rw [← HWI.out]; exact us_cell hg.out i (by rw [hM.out]; omega)
              have ck : wr.cell? ⟨gk, i, none⟩ = some (.int .u64 (ki.toNat : Int)) := by rw [← HKI.out]; exact own_cellU (own_below HKK.out hB.out) i (by omega)
              simp only [Int.reduceToNat, u_xor]
              generalize hs : R 14 v4 ^^^ R 18 v4 ^^^ R 41 v4 = s
              have HS := Lib.hid hs
              clear hs
              go_wp2
              go_quiet (fail)
              have hg' := Lib.hid (show (wr.drewN nq).heap[w.heap.size]? = some (.cells (us M).toArray 40) from hg.out)
              have hB' := Lib.hid (below_drewN hB.out nq)
              have hV' := Lib.hid (show V8 (wr.drewN nq) gv [v0, v1, v2, v3, v4, v5, v6, v7] from HV8.out)
              clear hg hB HV8 c0 c1 c2 c3 c4 c5 c6 c7 cw ck
              generalize wr.drewN nq = wr at hg' hB' hV' ⊢
              have hg := hg'
              have hB := hB'
              have HV8 := hV'
              clear hg' hB' hV'
              have c0 : wr.cell? ⟨gv, 0, none⟩ = some (.int .u64 (v0.toNat : Int)) := HV8.out 0 (by omega)
              have c1 : wr.cell? ⟨gv, 1, none⟩ = some (.int .u64 (v1.toNat : Int)) := HV8.out 1 (by omega)
              have c2 : wr.cell? ⟨gv, 2, none⟩ = some (.int .u64 (v2.toNat : Int)) := HV8.out 2 (by omega)
              have c3 : wr.cell? ⟨gv, 3, none⟩ = some (.int .u64 (v3.toNat : Int)) := HV8.out 3 (by omega)
              have c4 : wr.cell? ⟨gv, 4, none⟩ = some (.int .u64 (v4.toNat : Int)) := HV8.out 4 (by omega)
              have c5 : wr.cell? ⟨gv, 5, none⟩ = some (.int .u64 (v5.toNat : Int)) := HV8.out 5 (by omega)
              have c6 : wr.cell? ⟨gv, 6, none⟩ = some (.int .u64 (v6.toNat : Int)) := HV8.out 6 (by omega)
              have c7 : wr.cell? ⟨gv, 7, none⟩ = some (.int .u64 (v7.toNat : Int)) := HV8.out 7 (by omega)
              have cw : wr.cell? ⟨w.heap.size, i, none⟩ = some (.int .u64 (wi.toNat : Int)) := by rw [← HWI.out]; exact us_cell hg.out i (by rw [hM.out]; omega)
              have ck : wr.cell? ⟨gk, i, none⟩ = some (.int .u64 (ki.toNat : Int)) := by rw [← HKI.out]; exact own_cellU (own_below HKK.out hB.out) i (by omega)
              simp only [u_xor, u_and, u_not]
              generalize hcc : (v4 &&& v5) ^^^ (~~~v4 &&& v6) = cc
              have HCC := Lib.hid hcc
              clear hcc
              go_wp2
              go_quiet (fail)
              have hg' := Lib.hid (show (wr.drewN nq).heap[w.heap.size]? = some (.cells (us M).toArray 40) from hg.out)
              have hB' := Lib.hid (below_drewN hB.out nq)
              have hV' := Lib.hid (show V8 (wr.drewN nq) gv [v0, v1, v2, v3, v4, v5, v6, v7] from HV8.out)
              clear hg hB HV8 c0 c1 c2 c3 c4 c5 c6 c7 cw ck
              generalize wr.drewN nq = wr at hg' hB' hV' ⊢
              have hg := hg'
              have hB := hB'
              have HV8 := hV'
              clear hg' hB' hV'
              have c0 : wr.cell? ⟨gv, 0, none⟩ = some (.int .u64 (v0.toNat : Int)) := HV8.out 0 (by omega)
              have c1 : wr.cell? ⟨gv, 1, none⟩ = some (.int .u64 (v1.toNat : Int)) := HV8.out 1 (by omega)
              have c2 : wr.cell? ⟨gv, 2, none⟩ = some (.int .u64 (v2.toNat : Int)) := HV8.out 2 (by omega)
              have c3 : wr.cell? ⟨gv, 3, none⟩ = some (.int .u64 (v3.toNat : Int)) := HV8.out 3 (by omega)
              have c4 : wr.cell? ⟨gv, 4, none⟩ = some (.int .u64 (v4.toNat : Int)) := HV8.out 4 (by omega)
              have c5 : wr.cell? ⟨gv, 5, none⟩ = some (.int .u64 (v5.toNat : Int)) := HV8.out 5 (by omega)
              have c6 : wr.cell? ⟨gv, 6, none⟩ = some (.int .u64 (v6.toNat : Int)) := HV8.out 6 (by omega)
              have c7 : wr.cell? ⟨gv, 7, none⟩ = some (.int .u64 (v7.toNat : Int)) := HV8.out 7 (by omega)
              have cw : wr.cell? ⟨w.heap.size, i, none⟩ = some (.int .u64 (wi.toNat : Int)) := by rw [← HWI.out]; exact us_cell hg.out i (by rw [hM.out]; omega)
              have ck : wr.cell? ⟨gk, i, none⟩ = some (.int .u64 (ki.toNat : Int)) := by rw [← HKI.out]; exact own_cellU (own_below HKK.out hB.out) i (by omega)
              simp only [u_add]
              generalize htt : v7 + s + cc + ki + wi = tt
              have HTT := Lib.hid htt
              clear htt
              go_wp2
              go_quiet ((go_at_call 29; exact quiet_any (refTurn_i _ _ (by omega) (by omega) _)))
              have hg' := Lib.hid (show (wr.drewN nq).heap[w.heap.size]? = some (.cells (us M).toArray 40) from hg.out)
              have hB' := Lib.hid (below_drewN hB.out nq)
              have hV' := Lib.hid (show V8 (wr.drewN nq) gv [v0, v1, v2, v3, v4, v5, v6, v7] from HV8.out)
              clear hg hB HV8 c0 c1 c2 c3 c4 c5 c6 c7 cw ck
              generalize wr.drewN nq = wr at hg' hB' hV' ⊢
              have hg := hg'
              have hB := hB'
              have HV8 := hV'
              clear hg' hB' hV'
              have c0 : wr.cell? ⟨gv, 0, none⟩ = some (.int .u64 (v0.toNat : Int)) := HV8.out 0 (by omega)
              have c1 : wr.cell? ⟨gv, 1, none⟩ = some (.int .u64 (v1.toNat : Int)) := HV8.out 1 (by omega)
              have c2 : wr.cell? ⟨gv, 2, none⟩ = some (.int .u64 (v2.toNat : Int)) := HV8.out 2 (by omega)
              have c3 : wr.cell? ⟨gv, 3, none⟩ = some (.int .u64 (v3.toNat : Int)) := HV8.out 3 (by omega)
              have c4 : wr.cell? ⟨gv, 4, none⟩ = some (.int .u64 (v4.toNat : Int)) := HV8.out 4 (by omega)
              have c5 : wr.cell? ⟨gv, 5, none⟩ = some (.int .u64 (v5.toNat : Int)) := HV8.out 5 (by omega)
              have c6 : wr.cell? ⟨gv, 6, none⟩ = some (.int .u64 (v6.toNat : Int)) := HV8.out 6 (by omega)
              have c7 : wr.cell? ⟨gv, 7, none⟩ = some (.int .u64 (v7.toNat : Int)) := HV8.out 7 (by omega)
              have cw : wr.cell? ⟨w.heap.size, i, none⟩ = some (.int .u64 (wi.toNat : Int)) := by rw [← HWI.out]; exact us_cell hg.out i (by rw [hM.out]; omega)
              have ck : wr.cell? ⟨gk, i, none⟩ = some (.int .u64 (ki.toNat : Int)) := by rw [← HKI.out]; exact own_cellU (own_below HKK.out hB.out) i (by omega)
              simp only [Int.reduceToNat, u_xor]
              generalize hzz : R 28 v0 ^^^ R 34 v0 ^^^ R 39 v0 = zz
              have HZZ := Lib.hid hzz
              clear hzz
              go_wp2
              go_quiet (fail)
              have hg' := Lib.hid (show (wr.drewN nq).heap[w.heap.size]? = some (.cells (us M).toArray 40) from hg.out)
              have hB' := Lib.hid (below_drewN hB.out nq)
              have hV' := Lib.hid (show V8 (wr.drewN nq) gv [v0, v1, v2, v3, v4, v5, v6, v7] from HV8.out)
              clear hg hB HV8 c0 c1 c2 c3 c4 c5 c6 c7 cw ck
              generalize wr.drewN nq = wr at hg' hB' hV' ⊢
              have hg := hg'
              have hB := hB'
              have HV8 := hV'
              clear hg' hB' hV'
              have c0 : wr.cell? ⟨gv, 0, none⟩ = some (.int .u64 (v0.toNat : Int)) := HV8.out 0 (by omega)
              have c1 : wr.cell? ⟨gv, 1, none⟩ = some (.int .u64 (v1.toNat : Int)) := HV8.out 1 (by omega)
              have c2 : wr.cell? ⟨gv, 2, none⟩ = some (.int .u64 (v2.toNat : Int)) := HV8.out 2 (by omega)
              have c3 : wr.cell? ⟨gv, 3, none⟩ = some (.int .u64 (v3.toNat : Int)) := HV8.out 3 (by omega)
              have c4 : wr.cell? ⟨gv, 4, none⟩ = some (.int .u64 (v4.toNat : Int)) := HV8.out 4 (by omega)
              have c5 : wr.cell? ⟨gv, 5, none⟩ = some (.int .u64 (v5.toNat : Int)) := HV8.out 5 (by omega)
              have c6 : wr.cell? ⟨gv, 6, none⟩ = some (.int .u64 (v6.toNat : Int)) := HV8.out 6 (by omega)
              have c7 : wr.cell? ⟨gv, 7, none⟩ = some (.int .u64 (v7.toNat : Int)) := HV8.out 7 (by omega)
              have cw : wr.cell? ⟨w.heap.size, i, none⟩ = some (.int .u64 (wi.toNat : Int)) := by rw [← HWI.out]; exact us_cell hg.out i (by rw [hM.out]; omega)
              have ck : wr.cell? ⟨gk, i, none⟩ = some (.int .u64 (ki.toNat : Int)) := by rw [← HKI.out]; exact own_cellU (own_below HKK.out hB.out) i (by omega)
              simp only [u_xor, u_and]
              generalize hmm : (v0 &&& v1) ^^^ (v0 &&& v2) ^^^ (v1 &&& v2) = mm
              have HMM := Lib.hid hmm
              clear hmm
              go_wp2
              go_still_tail 28, (by kernel_rfl)
              change wpList _ _ _ _ _ wr.drew
              have hg5 := Lib.hid (show wr.drew.heap[w.heap.size]? = some (.cells (us M).toArray 40) from hg.out)
              have hB5 := Lib.hid (hB.out.trans (show Below w.heap.size wr wr.drew from ⟨rfl, rfl, rfl, Nat.le_refl _, fun _ _ => rfl⟩))
              clear hg hB HV8 c0 c1 c2 c3 c4 c5 c6 c7 cw ck
              generalize wr.drew = w5 at hg5 hB5 ⊢
              have HSUM := Lib.hid (rnd_ref ki wi v0 v1 v2 v3 v4 v5 v6 v7)
              rw [HS.out, HCC.out, HTT.out, HZZ.out, HMM.out] at HSUM
              go_wp2
              go_roundw
              case rel =>
                refine ⟨i + 1, rnd ki wi [v0, v1, v2, v3, v4, v5, v6, v7], w5.heap.size, 8, by omega, by go_num, rfl, hB5.out.size, by omega, Lib.hid (rnd_len _ _ _), Lib.hid ⟨?_, trivial⟩, Lib.hid (blk_alloc hg5.out _), Lib.hid (V8.lit _ _ _ (rnd_len _ _ _) _ ?_), Lib.hid (hB5.out.alloc hB5.out.size _)⟩
                · rw [← hX.out.1, show 80 - i = (80 - (i + 1)) + 1 by omega, mixV, HWI.out, HKI.out]
                · rw [HSUM.out]; simp only [u_add]; rfl
              case measure => (simp [intOf] <;> omega)
            · obtain rfl : i = 80 := by omega
              obtain rfl : V = Y := hX.out.1
              clear hX
              simp only [Int.cast_ofNat_Int]
              have HOH := Lib.hid (own_below HHH.out hB.out)
              have HTB := Lib.hid (Tch.ofBelow (g := gh) (vb := none) hB.out)
              clear hB hg HKK HHH
              go_wp2
              go_loopw [19] (fun vi wq => ∃ (j : Nat) (Z : List (BitVec 64)), j ≤ 8 ∧ vi = .int .i64 j ∧ Hid (Z.length = 8) ∧ Hid (addV V (8 - j) j Z = F ∧ True) ∧ Hid (wq.ownsRow 0 40 1 (.slice (some ⟨gh, 0, none⟩) 8 ch) 8 (us Z)) ∧ Hid (V8 wq gv V) ∧ Hid (Tch gh none w wq)) (fun vi _ => 8 - (intOf vi).toNat)
              case atStart => exact ⟨0, H, by omega, rfl, HHL, HFY, HOH, HV8, HTB⟩
              case round =>
                clear HOH HV8 HTB HFY
                obtain ⟨j, Z, hj, rfl, hZ, hX, HO, HV, HT⟩ := hrel
                by_cases hjl : j < 8
                · have p0 : (0 : Int) ≤ (j : Int) := by omega
                  have q0 : (j : Int) < 8 := by omega
                  obtain ⟨zj, hzj⟩ : ∃ x, Z.getD j 0 = x := ⟨_, rfl⟩
                  obtain ⟨vj, hvj⟩ : ∃ x, V.getD j 0 = x := ⟨_, rfl⟩
                  have d0 : wr.cell? ⟨gh, j, none⟩ = some (.int .u64 (zj.toNat : Int)) := by rw [← hzj]; exact own_cellU HO.out j hjl
                  have d1 : wr.cell? ⟨gv, j, none⟩ = some (.int .u64 (vj.toNat : Int)) := by rw [← hvj]; exact HV.out j hjl
                  have HXN := Lib.hid (show addV V (8 - (j + 1)) (j + 1) (Z.set j (zj + vj)) = F by rw [← hX.out.1, show 8 - j = (8 - (j + 1)) + 1 by omega, addV, hzj, hvj])
                  clear hzj hvj
                  go_wp2
                  go_still_tail 10, (by kernel_rfl)
                  change wpList _ _ _ _ _ wr.drew
                  have HO5 := Lib.hid (own_below HO.out (show Below wr.heap.size wr wr.drew from ⟨rfl, rfl, rfl, Nat.le_refl _, fun _ _ => rfl⟩))
                  have HV5 := Lib.hid (show V8 wr.drew gv V from HV.out)
                  have HT5 := Lib.hid (HT.out.below (show Below wr.heap.size wr wr.drew from ⟨rfl, rfl, rfl, Nat.le_refl _, fun _ _ => rfl⟩))
                  have e0 : wr.drew.cell? ⟨gh, j, none⟩ = some (.int .u64 (zj.toNat : Int)) := d0
                  clear HO HV HT d0 d1
                  generalize wr.drew = w5 at HO5 HV5 HT5 e0 ⊢
                  have ef := own_free HO5.out j
                  go_wp2
                  go_roundw
                  case rel =>
                    exact ⟨j + 1, Z.set j (zj + vj), by omega, by go_num, Lib.hid (by rw [List.length_set]; exact hZ.out), Lib.hid ⟨HXN.out, trivial⟩, Lib.hid (own_putU HO5.out j hjl _ _ (by rw [u_add])), Lib.hid (fun q hq => by
                      rw [← HV5.out q hq]
                      exact World.cell?_setCell_other (h := fun e => by have := congrArg Addr.block e; simp at this; omega) ..), Lib.hid (HT5.out.set j _)⟩
                  case measure => (simp [intOf] <;> omega)
                · obtain rfl : j = 8 := by omega
                  obtain rfl : Z = F := hX.out.1
                  go_wp2
                  go_end0
                  exact ⟨rfl, HO.out, HT.out⟩

end Go.Proofs.Ytkodmicocjklcaa
