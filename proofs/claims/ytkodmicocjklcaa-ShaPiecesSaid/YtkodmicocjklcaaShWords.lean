/- sha.words: what the call comes to. -/
import Derived.Test.YtkodmicocjklcaaShTurn
import Derived.Deep.QuietTactic
import Derived.BigQuiet
import Derived.StillTailTactics
import Derived.Deep.Cut
import Derived.Deep.CutRange
namespace Go.Proofs.Ytkodmicocjklcaa
open Go.RowKit

def us (l : List (BitVec 64)) : List Value := l.map U
theorem us_len (l : List (BitVec 64)) : (us l).length = l.length := by simp [us]
theorem us_cell {w : World} {g : Nat} {l : List (BitVec 64)} {t : TypeId} (h : w.heap[g]? = some (.cells (us l).toArray t)) (i : Nat) (hi : i < l.length) : w.cell? ⟨g, i, none⟩ = some (.int .u64 ((l.getD i 0).toNat : Int)) := by
  rw [cell_of_row w g i _ t _ h]
  simp [us, U, hi, List.getD_eq_getElem?_getD]
theorem us_put {w : World} {g : Nat} {l : List (BitVec 64)} {t : TypeId} (h : w.heap[g]? = some (.cells (us l).toArray t)) (i : Nat) (x : BitVec 64) : (w.setCell ⟨g, i, none⟩ (.int .u64 (x.toNat : Int))).heap[g]? = some (.cells (us (l.set i x)).toArray t) := by
  simp [World.setCell, Array.getElem?_modify, h, us, List.map_set, U]

theorem us_put2 {w : World} {g : Nat} {l : List (BitVec 64)} {t : TypeId} (h : w.heap[g]? = some (.cells (us l).toArray t)) (i : Nat) (e : Int) (x : BitVec 64) (he : e = (x.toNat : Int)) : (w.setCell ⟨g, i, none⟩ (.int .u64 e)).heap[g]? = some (.cells (us (l.set i x)).toArray t) := by
  subst he
  exact us_put h i x
theorem us_one (l : List (BitVec 64)) : (us l).toArray.all (·.oneCell') = true := by simp [us, U, Value.oneCell']
theorem heap_setRow_same {w : World} {g : Nat} {cs : Array Value} {t : TypeId} {q : Nat × Nat} (h : w.heap[g]? = some (.cells cs t q)) (c : Array Value) : (w.setRow g c).heap[g]? = some (.cells c t q) := by
  simp [World.setRow, Array.getElem?_modify, h]
theorem below_setRow {B : Nat} {w w1 : World} (h : Below B w w1) {g : Nat} (hg : B ≤ g) (c : Array Value) : Below B w (w1.setRow g c) :=
  h.trans ⟨rfl, rfl, rfl, by simp [World.setRow], fun i hi => by simp [World.setRow, Array.getElem?_modify, show ¬ g = i by omega]⟩

/-! ### the words of a block -/
def wIn (b : List Int) (i : Nat) : Nat → Nat → List (BitVec 64) → List (BitVec 64)
  | 0, _, L => L
  | k + 1, j, L => wIn b i k (j + 1) (L.set i ((L.getD i 0) <<< 8 ||| BitVec.ofInt 64 (b.getD (8 * i + j) 0)))
def wOut (b : List Int) : Nat → Nat → List (BitVec 64) → List (BitVec 64)
  | 0, _, L => L
  | k + 1, i, L => wOut b k (i + 1) (wIn b i 8 0 L)
def sig0 (x : BitVec 64) : BitVec 64 := R 1 x ^^^ R 8 x ^^^ x >>> 7
def sig1 (x : BitVec 64) : BitVec 64 := R 19 x ^^^ R 61 x ^^^ x >>> 6
def wExt : Nat → Nat → List (BitVec 64) → List (BitVec 64)
  | 0, _, L => L
  | k + 1, i, L => wExt k (i + 1) (L.set i (L.getD (i - 16) 0 + sig0 (L.getD (i - 15) 0) + L.getD (i - 7) 0 + sig1 (L.getD (i - 2) 0)))
def zerosB : List (BitVec 64) := List.replicate 80 0
theorem zerosB_len : zerosB.length = 80 := by simp [zerosB]
def wordsF (b : List Int) : List (BitVec 64) := wExt 64 16 (wOut b 16 0 zerosB)
theorem wIn_len (b : List Int) (i : Nat) : ∀ k j L, (wIn b i k j L).length = L.length
  | 0, _, _ => rfl
  | k + 1, j, L => by rw [wIn, wIn_len b i k]; simp
theorem wOut_len (b : List Int) : ∀ k i L, (wOut b k i L).length = L.length
  | 0, _, _ => rfl
  | k + 1, i, L => by rw [wOut, wOut_len b k, wIn_len]
theorem wExt_len : ∀ k i L, (wExt k i L).length = L.length
  | 0, _, _ => rfl
  | k + 1, i, L => by rw [wExt, wExt_len k]; simp
theorem wExt_next (M : List (BitVec 64)) (k : Nat) (h : k < 64) : wExt (64 - k) (k + 16) M = wExt (64 - (k + 1)) (k + 1 + 16) (M.set (k + 16) (M.getD k 0 + sig0 (M.getD (k + 1) 0) + M.getD (k + 9) 0 + sig1 (M.getD (k + 14) 0))) := by
  rw [show 64 - k = (64 - (k + 1)) + 1 by omega, wExt, show k + 16 - 16 = k by omega, show k + 16 - 15 = k + 1 by omega, show k + 16 - 7 = k + 9 by omega, show k + 16 - 2 = k + 14 by omega, show k + 16 + 1 = k + 1 + 16 by omega]
theorem u_byte (x : BitVec 64) (y : Int) (h0 : 0 ≤ y) (h1 : y ≤ 255) : bits .or .u64 (IntKind.u64.wrap ((x.toNat : Int) * 256)) y = ((x <<< 8 ||| BitVec.ofInt 64 y).toNat : Int) := by
  have h := u_shl x 8
  rw [show (2 : Int) ^ 8 = 256 by decide] at h
  rw [h]
  have e : (y : Int) = ((BitVec.ofInt 64 y).toNat : Int) := by
    obtain ⟨n, rfl⟩ := Int.eq_ofNat_of_zero_le h0
    rw [BitVec.ofInt_natCast, BitVec.toNat_ofNat, Nat.mod_eq_of_lt (by omega)]
  rw [e, u_or, u_of]

theorem run_cutB {P : Program} (w : World) {t e : TypeId} (ht : P.underlying t = some (.slice e)) (hs : ∀ w, (sizeOf e).run P w = .ok 1 w) (b off len cap lo hi : Nat) (h1 : lo ≤ hi) (h2 : hi ≤ cap) (h3 : lo < cap) :
    (Instr.sliceAt t (.slice (some ⟨b, off, none⟩) len cap) (some (.int .i64 (lo : Int))) (some (.int .i64 (hi : Int))) none).run P w = .ok (.slice (some ⟨b, off + lo, none⟩) (hi - lo) (cap - lo)) w := by
  have he : P.elem t = e := by simp [Program.elem, ht]
  have ht' : P.underlying t = some (.slice (P.elem t)) := by rw [he]; exact ht
  rw [run_sliceAt_slice w t _ _ _ _ ht', run_slice_lh w t _ len cap ht' .i64 .i64 lo hi (by omega) (by omega) (by omega), he, hs]
  simp [Result.andThen, sliced, show ¬ cap = lo by omega, Addr.add_lit]

set_option maxRecDepth 100000 in
set_option maxHeartbeats 4000000 in
theorem words_any (A : Option Addr) (b : List Int) (c : Nat) (w : World) (hl : b.length = 128) (hb : ∀ x ∈ b, 0 ≤ x ∧ x ≤ 255) (hc : 128 ≤ c) (hA : Ints .u8 w A b) :
    Calls Try.prog 30 #[.slice A 128 c] w fun e w' => e = .returned (.agg (us (wordsF b)).toArray) ∧ Below w.heap.size w w' := by
  generalize hWF : wordsF b = WF
  have HWF := Lib.hid (And.intro hWF trivial)
  clear hWF
  have hz := fun w => (show (zeroValue 53).run Try.prog w = .ok (.agg zeros80) w by kernel_rfl)
  go_enter Try.func30, Try.ntmps30
  go_wp2
  obtain ⟨bb, off, rfl, hcx⟩ := hA (by intro h; rw [h] at hl; simp at hl)
  have HC := Lib.hid hcx
  have HBB := Lib.hid hb
  have HLB := Lib.hid hl
  have hbk : bb < w.heap.size := World.block_lt_of_cell? w _ (hcx 0 (by omega))
  have HB1 := Lib.hid (((Below.refl w.heap.size w).alloc (Nat.le_refl _) (.cells zeros80 53)).alloc (by simp) (.cells zeros80 53))
  have HR1 := Lib.hid (blk_alloc (heap_alloc_new w (.cells zeros80 53)) (.cells zeros80 53))
  have HG1 := Lib.hid (show ((w.alloc (.cells zeros80 53)).alloc (.cells zeros80 53)).heap[w.heap.size + 1]? = some (.cells (us zerosB).toArray 53) by
    have h := heap_alloc_new (w.alloc (.cells zeros80 53)) (.cells zeros80 53)
    have e : (us zerosB).toArray = zeros80 := by kernel_rfl
    rw [e]
    simpa using h)
  clear hA hcx hb hl hz
  generalize (w.alloc (.cells zeros80 53)).alloc (.cells zeros80 53) = w2 at HB1 HR1 HG1 ⊢
  generalize hT : wOut b 16 0 zerosB = T
  have HT := Lib.hid (And.intro hT trivial)
  clear hT
  go_loopw [10] (fun vi wr => ∃ (i : Nat) (L : List (BitVec 64)), i ≤ 16 ∧ vi = .int .i64 i ∧ Hid (L.length = 80) ∧ Hid (wOut b (16 - i) i L = T) ∧ Hid (wr.heap[w.heap.size + 1]? = some (.cells (us L).toArray 53)) ∧ Hid (wr.heap[w.heap.size]? = some (.cells zeros80 53)) ∧ Hid (Below w.heap.size w wr)) (fun vi _ => 16 - (intOf vi).toNat)
  case atStart => exact ⟨0, zerosB, by omega, rfl, Lib.hid zerosB_len, Lib.hid HT.out.1, HG1, HR1, HB1⟩
  case round =>
    clear HB1 HR1 HG1
    obtain ⟨i, L, hi, rfl, hL, hO, hg, hr, hB⟩ := hrel
    by_cases hlt : i < 16
    · have hsl : ∀ W : World, (Instr.sliceAt 25 (.slice (some ⟨bb, off, none⟩) 128 c) (some (.int .i64 (8 * (i : Int)))) (some (.int .i64 (8 * (i : Int) + 8))) none).run Try.prog W = .ok (.slice (some ⟨bb, off + 8 * i, none⟩) 8 (c - 8 * i)) W := fun W => by
        have h := run_cutB (P := Try.prog) W Try.underlying25 (fun w => by kernel_rfl) bb off 128 c (8 * i) (8 * i + 8) (by omega) (by omega) (by omega)
        rw [show 8 * i + 8 - 8 * i = 8 by omega] at h
        simpa using h
      have HI0 := Lib.hid (show wOut b (16 - i) i L = wOut b (16 - (i + 1)) (i + 1) (wIn b i 8 0 L) by rw [show 16 - i = (16 - (i + 1)) + 1 by omega]; rfl)
      generalize hWI : wIn b i 8 0 L = LI at HI0
      have HWI := Lib.hid (And.intro hWI trivial)
      clear hWI
      go_wp2
      go_loopw [21] (fun vj wq => ∃ (j : Nat) (M : List (BitVec 64)), j ≤ 8 ∧ vj = .int .i64 j ∧ Hid (M.length = 80) ∧ Hid (wIn b i (8 - j) j M = LI ∧ True) ∧ Hid (wq.heap[w.heap.size + 1]? = some (.cells (us M).toArray 53)) ∧ Hid (wq.heap[w.heap.size]? = some (.cells zeros80 53)) ∧ Hid (Below w.heap.size w wq)) (fun vj _ => 8 - (intOf vj).toNat)
      case atStart => exact ⟨0, L, by omega, rfl, hL, HWI, hg, hr, hB⟩
      case round =>
        clear hg hr hB hL
        obtain ⟨j, M, hj, rfl, hM, hW, hg, hr, hB⟩ := hrel
        by_cases hjl : j < 8
        · have hx := HC.out (8 * i + j) (by rw [HLB.out]; omega)
          have hx1 := (hB.out.cell hbk).trans hx
          have hx2 : (wr.cell? ⟨bb, off + 8 * i + j, none⟩) = some (.int .u8 (b.getD (8 * i + j) 0)) := by rw [Nat.add_assoc]; exact hx1
          have hy := HBB.out (b.getD (8 * i + j) 0) (by rw [List.getD_eq_getElem?_getD, List.getElem?_eq_getElem (by rw [HLB.out]; omega)]; exact List.getElem_mem _)
          have hc1 := us_cell hg.out i (by rw [hM.out]; omega)
          have hf1 := blk_free hg.out i
          have HU := Lib.hid (u_byte (M.getD i 0) (b.getD (8 * i + j) 0) hy.1 hy.2)
          have HST := Lib.hid (us_put hg.out i ((M.getD i 0) <<< 8 ||| BitVec.ofInt 64 (b.getD (8 * i + j) 0)))
          have HNX := Lib.hid (show wIn b i (8 - j) j M = wIn b i (8 - (j + 1)) (j + 1) (M.set i ((M.getD i 0) <<< 8 ||| BitVec.ofInt 64 (b.getD (8 * i + j) 0))) ∧ True from ⟨by rw [show 8 - j = (8 - (j + 1)) + 1 by omega]; rfl, trivial⟩)
          have hm := (M.getD i 0).isLt
          rw [← HU.out] at HST
          clear hx hx1
          generalize b.getD (8 * i + j) 0 = y at hx2 hy HU HST HNX
          generalize (M.getD i 0) <<< 8 ||| BitVec.ofInt 64 y = z at HU HST HNX
          generalize (M.getD i 0).toNat = m at hc1 hm HU HST
          obtain ⟨hy0, hy1⟩ := hy
          clear hm
          go_wp2
          go_roundw
          case rel =>
            exact ⟨j + 1, M.set i z, by omega, by go_num, Lib.hid (by rw [List.length_set]; exact hM.out), Lib.hid ⟨HNX.out.1.symm.trans hW.out.1, trivial⟩, HST, Lib.hid (blk_set_far hr.out (by simp) _), Lib.hid (hB.out.setCell (by simp) _)⟩
          case measure => simp [intOf]; omega
        · obtain rfl : j = 8 := by omega
          have hMI : M = LI := hW.out.1
          subst hMI
          go_wp2
          go_roundw
          case rel => exact ⟨i + 1, M, by omega, by go_num, hM, Lib.hid (by rw [← HI0.out]; exact hO.out), hg, hr, hB⟩
          case measure => simp [intOf]; omega
    · obtain rfl : i = 16 := by omega
      have hLT : L = T := hO.out
      subst hLT
      generalize hF : wExt 64 16 L = F
      have HF := Lib.hid (And.intro hF trivial)
      clear hF
      have HWF2 : Hid (WF = F) := Lib.hid (by rw [← HWF.out.1, wordsF, HT.out.1, HF.out.1])
      clear HT hO HWF
      simp only [Int.cast_ofNat_Int]
      go_wp2
      go_loopw [7] (fun vi wq => ∃ (k : Nat) (M : List (BitVec 64)), k ≤ 64 ∧ vi = .int .i64 ((k : Int) + 16) ∧ Hid (M.length = 80) ∧ Hid (wExt (64 - k) (k + 16) M = F ∧ True) ∧ Hid (wq.heap[w.heap.size + 1]? = some (.cells (us M).toArray 53)) ∧ Hid (wq.heap[w.heap.size]? = some (.cells zeros80 53)) ∧ Hid (Below w.heap.size w wq)) (fun vi _ => 80 - (intOf vi).toNat)
      case atStart => exact ⟨0, L, by omega, rfl, hL, HF, hg, hr, hB⟩
      case round =>
        clear hg hr hB hL HF
        obtain ⟨k, M, hk, rfl, hM, hX, hg, hr, hB⟩ := hrel
        by_cases hkl : k < 64
        · have c1 := us_cell hg.out (k + 1) (by rw [hM.out]; omega)
          have c2 := us_cell hg.out (k + 14) (by rw [hM.out]; omega)
          have c3 := us_cell hg.out k (by rw [hM.out]; omega)
          have c4 := us_cell hg.out (k + 9) (by rw [hM.out]; omega)
          have cf := blk_free hg.out (k + 16)
          have HNX := Lib.hid (And.intro (wExt_next M k hkl) trivial)
          have HST := Lib.hid (us_put hg.out (k + 16) (M.getD k 0 + sig0 (M.getD (k + 1) 0) + M.getD (k + 9) 0 + sig1 (M.getD (k + 14) 0)))
          generalize M.getD k 0 = x0 at c3 HNX HST
          generalize M.getD (k + 1) 0 = x1 at c1 HNX HST
          generalize M.getD (k + 9) 0 = x9 at c4 HNX HST
          generalize M.getD (k + 14) 0 = x14 at c2 HNX HST
          generalize hz : x0 + sig0 x1 + x9 + sig1 x14 = z at HNX HST
          have HZ := Lib.hid hz
          clear hz
          have e1 : IntKind.i64.wrap ((k : Int) + 16 - 15) = (k : Int) + 1 := by rw [IntWalk.i64_in _ (by omega)]; omega
          have e2 : IntKind.i64.wrap ((k : Int) + 16 - 2) = (k : Int) + 14 := by rw [IntWalk.i64_in _ (by omega)]; omega
          have e3 : IntKind.i64.wrap (k : Int) = (k : Int) := IntWalk.i64_in _ (by omega)
          have e4 : IntKind.i64.wrap ((k : Int) + 16 - 7) = (k : Int) + 9 := by rw [IntWalk.i64_in _ (by omega)]; omega
          have p0 : (0 : Int) ≤ (k : Int) := by omega
          have p1 : (0 : Int) ≤ (k : Int) + 1 := by omega
          have p2 : (0 : Int) ≤ (k : Int) + 14 := by omega
          have p4 : (0 : Int) ≤ (k : Int) + 9 := by omega
          have q0 : (k : Int) < 80 := by omega
          have q1 : (k : Int) + 1 < 80 := by omega
          have q2 : (k : Int) + 14 < 80 := by omega
          have q4 : (k : Int) + 9 < 80 := by omega
          have t1 : ((k : Int) + 1).toNat = k + 1 := by omega
          have t2 : ((k : Int) + 14).toNat = k + 14 := by omega
          have q16 : (k : Int) + 16 < 80 := by omega
          have p16 : (0 : Int) ≤ (k : Int) + 16 := by omega
          have t16 : ((k : Int) + 16).toNat = k + 16 := by omega
          have t4 : ((k : Int) + 9).toNat = k + 9 := by omega
          go_wp2
          go_quiet (fail)
          have hg' := Lib.hid (show (wr.drewN nq).heap[w.heap.size + 1]? = some (.cells (us M).toArray 53) from hg.out)
          have hr' := Lib.hid (show (wr.drewN nq).heap[w.heap.size]? = some (.cells zeros80 53) from hr.out)
          have hB' := Lib.hid (hB.out.trans (show Below w.heap.size wr (wr.drewN nq) from ⟨rfl, rfl, rfl, Nat.le_refl _, fun _ _ => rfl⟩))
          have d1 : (wr.drewN nq).cell? ⟨w.heap.size + 1, k, none⟩ = some (.int .u64 (x0.toNat : Int)) := c3
          have d2 : (wr.drewN nq).cell? ⟨w.heap.size + 1, k + 9, none⟩ = some (.int .u64 (x9.toNat : Int)) := c4
          clear c1 c2 c3 c4 cf hg hr hB HST
          generalize wr.drewN nq = wq at hg' hr' hB' d1 d2 ⊢
          have cf : wq.frozen? ⟨w.heap.size + 1, k + 16, none⟩ = false := blk_free hg'.out (k + 16)
          go_wp2
          refine wp_region_still_tail 29 (by kernel_rfl) (by kernel_rfl) ?_
          simp only [List.take_succ_cons, List.take_zero, List.drop_succ_cons, List.drop_zero]
          repeat (first | still_step | (refine wpStill_step (fun K hK => ?_); go_simp; refine ⟨_, turn_still _ _ (by omega) (by omega) _, hK _ ?_⟩; clear hK K))
          refine wpStill_nil ?_
          have hg5 := Lib.hid (show wq.drew.heap[w.heap.size + 1]? = some (.cells (us M).toArray 53) from hg'.out)
          have hr5 := Lib.hid (show wq.drew.heap[w.heap.size]? = some (.cells zeros80 53) from hr'.out)
          have hB5 := Lib.hid (hB'.out.trans (show Below w.heap.size wq wq.drew from ⟨rfl, rfl, rfl, Nat.le_refl _, fun _ _ => rfl⟩))
          have cd : wq.drew.cell? ⟨w.heap.size + 1, k + 16, none⟩ = some (.int .u64 ((M.getD (k + 16) 0).toNat : Int)) := us_cell hg'.out (k + 16) (by rw [hM.out]; omega)
          generalize ((M.getD (k + 16) 0).toNat : Int) = vd at cd
          change wpList _ _ _ _ _ wq.drew
          clear d1 d2 cf hg' hr' hB'
          generalize wq.drew = w5 at hg5 hr5 hB5 cd ⊢
          have cf : w5.frozen? ⟨w.heap.size + 1, k + 16, none⟩ = false := blk_free hg5.out (k + 16)
          clear e1 e2 e3 e4 t1 t2 t4 t16 p0 p1 p2 p4 q0 q1 q2 q4 q16 p16
          go_wp2
          go_roundw
          case rel =>
            exact ⟨k + 1, M.set (k + 16) z, by omega, by go_num, Lib.hid (by rw [List.length_set]; exact hM.out), Lib.hid ⟨HNX.out.1.symm.trans hX.out.1, trivial⟩, Lib.hid (us_put2 hg5.out (k + 16) _ z (by rw [← HZ.out]; simp only [sig0, sig1, ← u_add, ← u_xor, ← u_shr]; rfl)), Lib.hid (blk_set_far hr5.out (by simp) _), Lib.hid (hB5.out.setCell (by simp) _)⟩
          case measure => simp [intOf]; omega
        · obtain rfl : k = 64 := by omega
          have hMF : M = F := hX.out.1
          subst hMF
          have hus : (us M).toArray.size = 80 := by simp [us, hM.out]
          have HSZ := Lib.hid (show (Try.prog.info? 53).map (·.size) = some (us M).toArray.size by rw [hus]; kernel_rfl)
          have HONE := Lib.hid (us_one M)
          have HUS := Lib.hid (show zeros80.size = (us M).toArray.size by rw [hus]; kernel_rfl)
          clear hus
          go_wp2_with (first
            | (refine wpList_load_row rfl 53 (.tmp 3) rfl (w.heap.size + 1) rfl 53 (us M).toArray (0, 0) _ hg.out Try.underlying53 rfl HSZ.out ?_)
            | (refine wpList_store_row rfl 53 (.tmp 2) (.tmp 77) rfl w.heap.size (us M).toArray rfl rfl 53 zeros80 hr.out HSZ.out HUS.out HONE.out ?_))
          refine bodyPost_ret (cell_result rfl _ _ _ w.heap.size 80 40 (us M).toArray rfl ?_ Try.underlying53 HSZ.out) rfl ?_
          · exact heap_setRow_same hr.out _
          · rw [HWF2.out]
            exact ⟨rfl, below_setRow hB.out (Nat.le_refl _) _⟩
end Go.Proofs.Ytkodmicocjklcaa
