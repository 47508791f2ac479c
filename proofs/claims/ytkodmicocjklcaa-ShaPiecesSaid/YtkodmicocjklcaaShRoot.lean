/- rhzref8.above, root: what the calls come to. -/
import Derived.Test.YtkodmicocjklcaaShMul
namespace Go.Proofs.Ytkodmicocjklcaa
open Go.RowKit

def minB (x : BitVec 64) : BitVec 64 := if 2147483648#64 < x then 2147483648#64 else x
theorem minB_val (x : BitVec 64) : (if (2147483648 : Int) < (x.toNat : Int) then (2147483648 : Int) else (x.toNat : Int)) = ((minB x).toNat : Int) := by
  unfold minB
  by_cases h : 2147483648#64 < x
  · rw [if_pos h, if_pos (by have := BitVec.lt_def.1 h; simp at this; omega)]; rfl
  · rw [if_neg h, if_neg (by intro h2; exact h (BitVec.lt_def.2 (by simp; omega)))]
theorem above_val (v x : BitVec 64) : (if (2147483648 : Int) < bits .or .u64 (IntKind.u64.wrap ((v.toNat : Int) * 4294967296)) (x.toNat : Int) then (2147483648 : Int) else bits .or .u64 (IntKind.u64.wrap ((v.toNat : Int) * 4294967296)) (x.toNat : Int)) = ((minB (v <<< 32 ||| x)).toNat : Int) := by
  have e := u_shl v 32
  rw [show (2 : Int) ^ 32 = 4294967296 by decide] at e
  rw [e, u_or, minB_val]
def aboveGo (n : List (BitVec 64)) (k : Nat) : Nat → BitVec 64 → Bool → BitVec 64 × Bool
  | 0, v, low => (v, low)
  | i + 1, v, low => if 2 * k ≤ i then aboveGo n k i (minB (v <<< 32 ||| n.getD i 0)) low else aboveGo n k i v (low || n.getD i 0 != 0)
def aboveF (n : List (BitVec 64)) (p : BitVec 64) (k : Nat) : Bool := decide (p < (aboveGo n k n.length 0 false).1) || ((aboveGo n k n.length 0 false).1 == p && (aboveGo n k n.length 0 false).2)

set_option maxRecDepth 100000 in
set_option maxHeartbeats 4000000 in
theorem above_any (gn : Nat) (n : List (BitVec 64)) (p : BitVec 64) (k : Nat) (cn : Nat) (w : World) (hln : n.length ≤ 100) (hk : k ≤ 100) (hn : w.heap[gn]? = some (.cells (us n).toArray 40)) :
    Calls Try.prog 28 #[.slice (some ⟨gn, 0, none⟩) n.length cn, .int .u64 (p.toNat : Int), .int .i64 (k : Nat)] w fun e w' => e = .returned (.bool (aboveF n p k)) ∧ w = w' := by
  have HN := Lib.hid hn
  generalize hF : aboveGo n k n.length 0 false = F
  have HF := Lib.hid (And.intro hF trivial)
  have HAF := Lib.hid (show aboveF n p k = (decide (p < F.1) || (F.1 == p && F.2)) by rw [aboveF, hF])
  generalize aboveF n p k = R at HAF ⊢
  clear hn hF
  go_enter Try.func28, Try.ntmps28
  go_wp2
  go_loop [7, 8, 9] (fun vv vl vi => ∃ (m : Nat) (v : BitVec 64) (low : Bool), m ≤ n.length ∧ vi = .int .i64 ((m : Int) - 1) ∧ vv = .int .u64 (v.toNat : Int) ∧ vl = .bool low ∧ Hid (aboveGo n k m v low = F ∧ True)) (fun _ _ vi => (intOf vi + 1).toNat)
  case atStart => exact ⟨n.length, 0, false, Nat.le_refl _, rfl, rfl, rfl, HF⟩
  case round =>
    clear HF
    obtain ⟨m, v, low, hm, rfl, rfl, rfl, hX⟩ := hrel
    rcases m with _ | j
    · obtain rfl : F = (v, low) := by have := hX.out.1; rw [aboveGo] at this; exact this.symm
      clear hX
      rw [show ((0 : Nat) : Int) - 1 = -1 by rfl]
      have hlt := v.isLt
      have hpl := p.isLt
      by_cases h1 : (p.toNat : Int) < (v.toNat : Int)
      · have HR := Lib.hid (show R = true by rw [HAF.out]; simp; exact .inl (BitVec.lt_def.2 (by omega)))
        clear hlt hpl
        go_wp2
        go_ret
        exact ⟨by rw [HR.out]; rfl, rfl⟩
      · by_cases h2 : (v.toNat : Int) = (p.toNat : Int)
        · have HR := Lib.hid (show R = low by
            have : v = p := BitVec.eq_of_toNat_eq (by omega)
            rw [HAF.out, this]; simp)
          clear hlt hpl
          go_wp2
          go_ret
          exact ⟨by rw [HR.out]; rfl, rfl⟩
        · have HR := Lib.hid (show R = false by
            have h3 : ¬ v = p := fun e => h2 (by rw [e])
            rw [HAF.out]; simp [h3]; exact BitVec.not_lt.1 (fun e => h1 (by have := BitVec.lt_def.1 e; omega)))
          clear hlt hpl
          go_wp2
          go_ret
          exact ⟨by rw [HR.out]; rfl, rfl⟩
    · rw [show ((j + 1 : Nat) : Int) - 1 = (j : Int) by omega]
      obtain ⟨nj, hnj⟩ : ∃ x, n.getD j 0 = x := ⟨_, rfl⟩
      have c1 : w.cell? ⟨gn, j, none⟩ = some (.int .u64 (nj.toNat : Int)) := by rw [← hnj]; exact us_cell HN.out j (by omega)
      have hX2 := hX.out.1
      rw [aboveGo, hnj] at hX2
      have HX2 := Lib.hid hX2
      clear hX hX2 hnj
      by_cases hkj : 2 * k ≤ j
      · have HV := Lib.hid (above_val v nj)
        go_wp2
        go_round
        case rel => exact ⟨j, minB (v <<< 32 ||| nj), low, by omega, rfl, congrArg (Value.int .u64) HV.out, rfl, Lib.hid ⟨by have := HX2.out; rwa [if_pos hkj] at this, trivial⟩⟩
        case measure => (simp [intOf] <;> omega)
      · have HX3 := Lib.hid (show aboveGo n k j v (low || nj != 0) = F by have := HX2.out; rwa [if_neg hkj] at this)
        rcases low with _ | _
        · by_cases hz : (nj.toNat : Int) = 0
          · have HZ := Lib.hid (show (nj != 0) = false by
              have : nj = 0 := BitVec.eq_of_toNat_eq (by simp; omega)
              rw [this]; rfl)
            go_wp2
            go_round
            case rel => exact ⟨j, v, false, by omega, rfl, rfl, rfl, Lib.hid ⟨by have := HX3.out; rwa [HZ.out] at this, trivial⟩⟩
            case measure => (simp [intOf] <;> omega)
          · have HZ := Lib.hid (show (nj != 0) = true by
              rw [bne_iff_ne]
              intro e; rw [e] at hz; exact hz rfl)
            have hz' : ((nj.toNat : Int) != 0) = true := bne_iff_ne.2 hz
            go_wp2
            go_round
            case rel => exact ⟨j, v, true, by omega, rfl, rfl, rfl, Lib.hid ⟨by have := HX3.out; rwa [HZ.out] at this, trivial⟩⟩
            case measure => (simp [intOf] <;> omega)
        · go_wp2
          go_round
          case rel => exact ⟨j, v, true, by omega, rfl, rfl, rfl, Lib.hid ⟨by have := HX3.out; rwa [Bool.true_or] at this, trivial⟩⟩
          case measure => (simp [intOf] <;> omega)

/-! ### root -/
theorem bit_val (n : Nat) : IntKind.u64.wrap ((2 : Int) ^ n) = ((1#64 <<< n).toNat : Int) := by
  have e := u_shl 1#64 n
  rw [show (((1#64).toNat : Nat) : Int) = 1 from rfl, Int.one_mul] at e
  exact e
theorem mul_at (ga gb : Nat) (a b : List (BitVec 64)) (na nb ca cb : Nat) (w : World) (hna : a.length = na) (hnb : b.length = nb) (hla : na ≤ 100) (hlb : nb ≤ 100) (ha : w.heap[ga]? = some (.cells (us a).toArray 40)) (hb : w.heap[gb]? = some (.cells (us b).toArray 40)) :
    Calls Try.prog 27 #[.slice (some ⟨ga, 0, none⟩) na ca, .slice (some ⟨gb, 0, none⟩) nb cb] w fun e w' => ∃ g, e = .returned (.slice (some ⟨g, 0, none⟩) (na + nb + 1) (na + nb + 1)) ∧ w.heap.size ≤ g ∧ w'.heap[g]? = some (.cells (us (mulF a b)).toArray 40) ∧ Below w.heap.size w w' := by
  subst hna hnb
  exact mul_any ga gb a b ca cb w hla hlb ha hb
theorem above_at (gn : Nat) (n : List (BitVec 64)) (p : BitVec 64) (k : Nat) (m cn : Nat) (ki : Int) (w : World) (hm : n.length = m) (hki : ki = (k : Nat)) (hln : m ≤ 100) (hk : k ≤ 100) (hn : w.heap[gn]? = some (.cells (us n).toArray 40)) :
    Calls Try.prog 28 #[.slice (some ⟨gn, 0, none⟩) m cn, .int .u64 (p.toNat : Int), .int .i64 ki] w fun e w' => e = .returned (.bool (aboveF n p k)) ∧ w = w' := by
  subst hm hki
  exact above_any gn n p k cn w hln hk hn
theorem root_val (x y : BitVec 64) : bits .or .u64 (IntKind.u64.wrap ((x.toNat : Int) * 4294967296)) (y.toNat : Int) = ((x <<< 32 ||| y).toNat : Int) := by
  have e := u_shl x 32
  rw [show (2 : Int) ^ 32 = 4294967296 by decide] at e
  rw [e, u_or]
def zeros3 : List (BitVec 64) := [0, 0, 0]
def rootTry (x : List (BitVec 64)) (k : Nat) : List (BitVec 64) := if k = 3 then mulF (mulF x x) x else mulF x x
def rootStep (p : BitVec 64) (k bit : Nat) (x : List (BitVec 64)) : List (BitVec 64) :=
  if aboveF (rootTry (x.set (bit / 32) (x.getD (bit / 32) 0 ||| 1#64 <<< (bit % 32))) k) p k = true
  then (x.set (bit / 32) (x.getD (bit / 32) 0 ||| 1#64 <<< (bit % 32))).set (bit / 32) ((x.set (bit / 32) (x.getD (bit / 32) 0 ||| 1#64 <<< (bit % 32))).getD (bit / 32) 0 ^^^ 1#64 <<< (bit % 32))
  else x.set (bit / 32) (x.getD (bit / 32) 0 ||| 1#64 <<< (bit % 32))
def rootGo (p : BitVec 64) (k : Nat) : Nat → List (BitVec 64) → List (BitVec 64)
  | 0, x => x
  | b + 1, x => rootGo p k b (rootStep p k b x)
def rootF (p : BitVec 64) (k : Nat) : BitVec 64 := (rootGo p k 67 zeros3).getD 1 0 <<< 32 ||| (rootGo p k 67 zeros3).getD 0 0
theorem rootStep_len (p : BitVec 64) (k bit : Nat) (x : List (BitVec 64)) : (rootStep p k bit x).length = x.length := by
  unfold rootStep; split <;> simp
theorem rootGo_len (p : BitVec 64) (k : Nat) : ∀ b x, (rootGo p k b x).length = x.length
  | 0, _ => rfl
  | b + 1, x => by rw [rootGo, rootGo_len p k b, rootStep_len]

set_option maxRecDepth 100000 in
set_option maxHeartbeats 4000000 in
theorem root_any (p : BitVec 64) (k : Nat) (w : World) (hk : k = 2 ∨ k = 3) :
    Calls Try.prog 19 #[.int .u64 (p.toNat : Int), .int .i64 (k : Nat)] w fun e w' => e = .returned (.int .u64 ((rootF p k).toNat : Int)) ∧ Below w.heap.size w w' := by
  obtain ⟨i0, hi, hz0, hz1, hz2⟩ := info_parts (show (Try.prog.info? 40).map (fun i => (i.zero, i.size, i.bytes)) = some (some (.int .u64 0), 1, 8) by kernel_rfl)
  have hmk := run_make_ints (P := Try.prog) w 38 40 .u64 8 Try.underlying38 hi hz0 hz1 hz2 3 (by omega) (by omega)
  rw [us_zeros] at hmk
  simp only [Int.cast_ofNat_Int] at hmk
  rw [show List.replicate 3 (0 : BitVec 64) = zeros3 from rfl] at hmk
  have HW := Lib.hid ((Below.refl w.heap.size w).alloc (Nat.le_refl _) (.cells (us zeros3).toArray 40))
  have HG := Lib.hid (heap_alloc_new w (.cells (us zeros3).toArray 40))
  generalize hF : rootGo p k 67 zeros3 = F
  have HF := Lib.hid (And.intro hF trivial)
  have HR := Lib.hid (show rootF p k = F.getD 1 0 <<< 32 ||| F.getD 0 0 by rw [rootF, hF])
  have HFL := Lib.hid (show F.length = 3 by rw [← hF, rootGo_len]; rfl)
  generalize rootF p k = R at HR ⊢
  have hk100 : k ≤ 100 := by omega
  clear hF
  go_enter Try.func19, Try.ntmps19
  go_wp2
  clear hmk
  have HG2 := Lib.hid (show (w.alloc (.cells (us zeros3).toArray 40)).heap[w.heap.size]? = some (.cells (us zeros3).toArray 40) from HG.out)
  clear HG
  generalize w.alloc (.cells (us zeros3).toArray 40) = w1 at HG2 HW ⊢
  go_loopw [6] (fun vi wr => ∃ (m : Nat) (x : List (BitVec 64)), m ≤ 67 ∧ vi = .int .i64 ((m : Int) - 1) ∧ Hid (x.length = 3) ∧ Hid (rootGo p k m x = F ∧ True) ∧ Hid (wr.heap[w.heap.size]? = some (.cells (us x).toArray 40)) ∧ Hid (Below w.heap.size w wr)) (fun vi _ => (intOf vi + 1).toNat)
  case atStart => exact ⟨67, zeros3, by omega, rfl, rfl, HF, HG2, HW⟩
  case round =>
    clear HG2 HW HF
    obtain ⟨m, x, hm, rfl, hx, hX, HG, HW⟩ := hrel
    rcases m with _ | b
    · obtain rfl : x = F := hX.out.1
      rw [show ((0 : Nat) : Int) - 1 = -1 by rfl]
      obtain ⟨x0, hx0⟩ : ∃ y, x.getD 0 0 = y := ⟨_, rfl⟩
      obtain ⟨x1, hx1⟩ : ∃ y, x.getD 1 0 = y := ⟨_, rfl⟩
      have c0 : wr.cell? ⟨w.heap.size, 0, none⟩ = some (.int .u64 (x0.toNat : Int)) := by rw [← hx0]; exact us_cell HG.out 0 (by rw [hx.out]; omega)
      have c1 : wr.cell? ⟨w.heap.size, 1, none⟩ = some (.int .u64 (x1.toNat : Int)) := by rw [← hx1]; exact us_cell HG.out 1 (by rw [hx.out]; omega)
      have HR2 := Lib.hid (show R = x1 <<< 32 ||| x0 by rw [HR.out, hx0, hx1])
      clear hx0 hx1 hX
      go_wp2
      go_quiet (fail)
      go_wp2
      go_ret
      refine ⟨?_, below_drewN HW.out nq⟩
      rw [HR2.out, ← root_val]
      rfl
    · rw [show ((b + 1 : Nat) : Int) - 1 = (b : Int) by omega]
      obtain ⟨y, hy⟩ : ∃ y, x.getD (b / 32) 0 = y := ⟨_, rfl⟩
      have c0 : wr.cell? ⟨w.heap.size, b / 32, none⟩ = some (.int .u64 (y.toNat : Int)) := by rw [← hy]; exact us_cell HG.out (b / 32) (by rw [hx.out]; omega)
      have cf := blk_free HG.out (b / 32)
      generalize hz : x.set (b / 32) (y ||| 1#64 <<< (b % 32)) = z
      have HX1 := Lib.hid (And.intro hz trivial)
      have HZL := Lib.hid (show z.length = 3 by rw [← hz, List.length_set]; exact hx.out)
      obtain ⟨zy, hzy⟩ : ∃ q, z.getD (b / 32) 0 = q := ⟨_, rfl⟩
      have HZY := Lib.hid hzy
      rcases hk with hk2 | hk3
      · have hkb : ((k : Int) == 3) = false := by rw [hk2]; rfl
        have htr : rootTry z k = mulF z z := if_neg (by omega)
        clear hk2
        have HX2 := Lib.hid (show rootGo p k b (if aboveF (mulF z z) p k = true then z.set (b / 32) (zy ^^^ 1#64 <<< (b % 32)) else z) = F ∧ True from ⟨by
          have := hX.out.1
          rw [rootGo, rootStep, hy, hz, hzy, htr] at this
          exact this, trivial⟩)
        clear hX hy hz hzy htr
        by_cases hab : aboveF (mulF z z) p k = true
        · have HTRY := Lib.hid (show aboveF (mulF z z) p k = true from hab)
          clear hab
          go_wp2_with (first
          | (go_at_call 27;
             have hg1 := us_put2 HG.out (b / 32) (bits .or .u64 (y.toNat : Int) (IntKind.u64.wrap ((2 : Int) ^ (b % 32)))) (y ||| 1#64 <<< (b % 32)) (by rw [bit_val, u_or]);
             have hb1 := HW.out.setCell (p := ⟨w.heap.size, b / 32, none⟩) (Nat.le_refl _) (.int .u64 (bits .or .u64 (y.toNat : Int) (IntKind.u64.wrap ((2 : Int) ^ (b % 32)))));
             rw [HX1.out.1] at hg1;
             generalize wr.setCell ⟨w.heap.size, b / 32, none⟩ (.int .u64 (bits .or .u64 (y.toNat : Int) (IntKind.u64.wrap ((2 : Int) ^ (b % 32))))) = w2 at hg1 hb1 ⊢;
             clear HX1;
             refine (mul_at w.heap.size w.heap.size z z 3 3 3 3 w2 HZL.out HZL.out (by omega) (by omega) hg1 hg1).mono ?_;
             rintro e w3 ⟨g3, rfl, hg3, hr3, hb3⟩;
             have HG3 := Lib.hid (blk_below hg1 hb3); have HN3 := Lib.hid hr3; have HB3 := Lib.hid (below_then hb1 hb3); clear hg1 hb1 hr3 hb3 hg3)
          | (go_at_call 28;
             refine (above_at g3 (mulF z z) p k 7 7 k w3 (by rw [mulF_len, HZL.out]) rfl (by omega) hk100 HN3.out).mono ?_;
             rintro e w5 ⟨rfl, rfl⟩; rw [HTRY.out];
             have c5 := us_cell HG3.out (b / 32) (by rw [HZL.out]; omega); have f5 := blk_free HG3.out (b / 32);
             rw [HZY.out] at c5))
          go_roundw
          case rel =>
            refine ⟨b, z.set (b / 32) (zy ^^^ 1#64 <<< (b % 32)), by omega, by go_num, Lib.hid (by rw [List.length_set]; exact HZL.out), Lib.hid ⟨?_, trivial⟩, Lib.hid (us_put2 HG3.out (b / 32) _ (zy ^^^ 1#64 <<< (b % 32)) (by rw [bit_val, u_xor])), Lib.hid (HB3.out.setCell (Nat.le_refl _) _)⟩
            have := HX2.out.1
            rw [if_pos HTRY.out] at this
            exact this
          case measure => (simp [intOf] <;> omega)
        · have HTRY := Lib.hid (show aboveF (mulF z z) p k = false from by simpa using hab)
          clear hab
          go_wp2_with (first
          | (go_at_call 27;
             have hg1 := us_put2 HG.out (b / 32) (bits .or .u64 (y.toNat : Int) (IntKind.u64.wrap ((2 : Int) ^ (b % 32)))) (y ||| 1#64 <<< (b % 32)) (by rw [bit_val, u_or]);
             have hb1 := HW.out.setCell (p := ⟨w.heap.size, b / 32, none⟩) (Nat.le_refl _) (.int .u64 (bits .or .u64 (y.toNat : Int) (IntKind.u64.wrap ((2 : Int) ^ (b % 32)))));
             rw [HX1.out.1] at hg1;
             generalize wr.setCell ⟨w.heap.size, b / 32, none⟩ (.int .u64 (bits .or .u64 (y.toNat : Int) (IntKind.u64.wrap ((2 : Int) ^ (b % 32))))) = w2 at hg1 hb1 ⊢;
             clear HX1;
             refine (mul_at w.heap.size w.heap.size z z 3 3 3 3 w2 HZL.out HZL.out (by omega) (by omega) hg1 hg1).mono ?_;
             rintro e w3 ⟨g3, rfl, hg3, hr3, hb3⟩;
             have HG3 := Lib.hid (blk_below hg1 hb3); have HN3 := Lib.hid hr3; have HB3 := Lib.hid (below_then hb1 hb3); clear hg1 hb1 hr3 hb3 hg3)
          | (go_at_call 28;
             refine (above_at g3 (mulF z z) p k 7 7 k w3 (by rw [mulF_len, HZL.out]) rfl (by omega) hk100 HN3.out).mono ?_;
             rintro e w5 ⟨rfl, rfl⟩; rw [HTRY.out];
             have c5 := us_cell HG3.out (b / 32) (by rw [HZL.out]; omega); have f5 := blk_free HG3.out (b / 32);
             rw [HZY.out] at c5))
          go_roundw
          case rel =>
            refine ⟨b, z, by omega, by go_num, HZL, Lib.hid ⟨?_, trivial⟩, HG3, HB3⟩
            have := HX2.out.1
            rw [if_neg (by rw [HTRY.out]; simp)] at this
            exact this
          case measure => (simp [intOf] <;> omega)
      · have hkb : ((k : Int) == 3) = true := by rw [hk3]; rfl
        have htr : rootTry z k = mulF (mulF z z) z := if_pos (by omega)
        clear hk3
        have HX2 := Lib.hid (show rootGo p k b (if aboveF (mulF (mulF z z) z) p k = true then z.set (b / 32) (zy ^^^ 1#64 <<< (b % 32)) else z) = F ∧ True from ⟨by
          have := hX.out.1
          rw [rootGo, rootStep, hy, hz, hzy, htr] at this
          exact this, trivial⟩)
        clear hX hy hz hzy htr
        by_cases hab : aboveF (mulF (mulF z z) z) p k = true
        · have HTRY := Lib.hid (show aboveF (mulF (mulF z z) z) p k = true from hab)
          clear hab
          go_wp2_with (first
          | (go_at_call 27;
             have hg1 := us_put2 HG.out (b / 32) (bits .or .u64 (y.toNat : Int) (IntKind.u64.wrap ((2 : Int) ^ (b % 32)))) (y ||| 1#64 <<< (b % 32)) (by rw [bit_val, u_or]);
             have hb1 := HW.out.setCell (p := ⟨w.heap.size, b / 32, none⟩) (Nat.le_refl _) (.int .u64 (bits .or .u64 (y.toNat : Int) (IntKind.u64.wrap ((2 : Int) ^ (b % 32)))));
             rw [HX1.out.1] at hg1;
             generalize wr.setCell ⟨w.heap.size, b / 32, none⟩ (.int .u64 (bits .or .u64 (y.toNat : Int) (IntKind.u64.wrap ((2 : Int) ^ (b % 32))))) = w2 at hg1 hb1 ⊢;
             clear HX1;
             refine (mul_at w.heap.size w.heap.size z z 3 3 3 3 w2 HZL.out HZL.out (by omega) (by omega) hg1 hg1).mono ?_;
             rintro e w3 ⟨g3, rfl, hg3, hr3, hb3⟩;
             have HG3 := Lib.hid (blk_below hg1 hb3); have HN3 := Lib.hid hr3; have HB3 := Lib.hid (below_then hb1 hb3); clear hg1 hb1 hr3 hb3 hg3)
          | (go_at_call 27;
             refine (mul_at g3 w.heap.size (mulF z z) z 7 3 7 3 w3 (by rw [mulF_len, HZL.out]) HZL.out (by omega) (by omega) HN3.out HG3.out).mono ?_;
             rintro e w4 ⟨g4, rfl, hg4, hr4, hb4⟩;
             have HG4 := Lib.hid (blk_below HG3.out hb4); have HN4 := Lib.hid hr4; have HB4 := Lib.hid (below_then HB3.out hb4); clear hr4 hb4 hg4)
          | (go_at_call 28;
             refine (above_at g4 (mulF (mulF z z) z) p k 11 11 k w4 (by rw [mulF_len, mulF_len, HZL.out]) rfl (by omega) hk100 HN4.out).mono ?_;
             rintro e w5 ⟨rfl, rfl⟩; rw [HTRY.out];
             have c5 := us_cell HG4.out (b / 32) (by rw [HZL.out]; omega); have f5 := blk_free HG4.out (b / 32);
             rw [HZY.out] at c5))
          go_roundw
          case rel =>
            refine ⟨b, z.set (b / 32) (zy ^^^ 1#64 <<< (b % 32)), by omega, by go_num, Lib.hid (by rw [List.length_set]; exact HZL.out), Lib.hid ⟨?_, trivial⟩, Lib.hid (us_put2 HG4.out (b / 32) _ (zy ^^^ 1#64 <<< (b % 32)) (by rw [bit_val, u_xor])), Lib.hid (HB4.out.setCell (Nat.le_refl _) _)⟩
            have := HX2.out.1
            rw [if_pos HTRY.out] at this
            exact this
          case measure => (simp [intOf] <;> omega)
        · have HTRY := Lib.hid (show aboveF (mulF (mulF z z) z) p k = false from by simpa using hab)
          clear hab
          go_wp2_with (first
          | (go_at_call 27;
             have hg1 := us_put2 HG.out (b / 32) (bits .or .u64 (y.toNat : Int) (IntKind.u64.wrap ((2 : Int) ^ (b % 32)))) (y ||| 1#64 <<< (b % 32)) (by rw [bit_val, u_or]);
             have hb1 := HW.out.setCell (p := ⟨w.heap.size, b / 32, none⟩) (Nat.le_refl _) (.int .u64 (bits .or .u64 (y.toNat : Int) (IntKind.u64.wrap ((2 : Int) ^ (b % 32)))));
             rw [HX1.out.1] at hg1;
             generalize wr.setCell ⟨w.heap.size, b / 32, none⟩ (.int .u64 (bits .or .u64 (y.toNat : Int) (IntKind.u64.wrap ((2 : Int) ^ (b % 32))))) = w2 at hg1 hb1 ⊢;
             clear HX1;
             refine (mul_at w.heap.size w.heap.size z z 3 3 3 3 w2 HZL.out HZL.out (by omega) (by omega) hg1 hg1).mono ?_;
             rintro e w3 ⟨g3, rfl, hg3, hr3, hb3⟩;
             have HG3 := Lib.hid (blk_below hg1 hb3); have HN3 := Lib.hid hr3; have HB3 := Lib.hid (below_then hb1 hb3); clear hg1 hb1 hr3 hb3 hg3)
          | (go_at_call 27;
             refine (mul_at g3 w.heap.size (mulF z z) z 7 3 7 3 w3 (by rw [mulF_len, HZL.out]) HZL.out (by omega) (by omega) HN3.out HG3.out).mono ?_;
             rintro e w4 ⟨g4, rfl, hg4, hr4, hb4⟩;
             have HG4 := Lib.hid (blk_below HG3.out hb4); have HN4 := Lib.hid hr4; have HB4 := Lib.hid (below_then HB3.out hb4); clear hr4 hb4 hg4)
          | (go_at_call 28;
             refine (above_at g4 (mulF (mulF z z) z) p k 11 11 k w4 (by rw [mulF_len, mulF_len, HZL.out]) rfl (by omega) hk100 HN4.out).mono ?_;
             rintro e w5 ⟨rfl, rfl⟩; rw [HTRY.out];
             have c5 := us_cell HG4.out (b / 32) (by rw [HZL.out]; omega); have f5 := blk_free HG4.out (b / 32);
             rw [HZY.out] at c5))
          go_roundw
          case rel =>
            refine ⟨b, z, by omega, by go_num, HZL, Lib.hid ⟨?_, trivial⟩, HG4, HB4⟩
            have := HX2.out.1
            rw [if_neg (by rw [HTRY.out]; simp)] at this
            exact this
          case measure => (simp [intOf] <;> omega)
end Go.Proofs.Ytkodmicocjklcaa
