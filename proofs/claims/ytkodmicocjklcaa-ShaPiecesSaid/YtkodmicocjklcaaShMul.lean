/- rhzref8.mul, above, root: what the calls come to. -/
import Derived.Test.YtkodmicocjklcaaShSum
namespace Go.Proofs.Ytkodmicocjklcaa
open Go.RowKit

theorem u_mul (x y : BitVec 64) : IntKind.u64.wrap ((x.toNat : Int) * (y.toNat : Int)) = ((x * y).toNat : Int) := by
  rw [← Int.natCast_mul, u_wrap, BitVec.toNat_mul]
def mulIn (a : BitVec 64) (b : List (BitVec 64)) (i : Nat) : Nat → Nat → List (BitVec 64) → BitVec 64 → List (BitVec 64) × BitVec 64
  | 0, _, O, c => (O, c)
  | n + 1, k, O, c => mulIn a b i n (k + 1) (O.set (i + k) ((a * b.getD k 0 + O.getD (i + k) 0 + c) &&& 4294967295#64)) ((a * b.getD k 0 + O.getD (i + k) 0 + c) >>> 32)
def mulRow (a : BitVec 64) (b : List (BitVec 64)) (i : Nat) (O : List (BitVec 64)) : List (BitVec 64) :=
  (mulIn a b i b.length 0 O 0).1.set (i + b.length) ((mulIn a b i b.length 0 O 0).1.getD (i + b.length) 0 + (mulIn a b i b.length 0 O 0).2)
def mulOut (a b : List (BitVec 64)) : Nat → Nat → List (BitVec 64) → List (BitVec 64)
  | 0, _, O => O
  | n + 1, i, O => mulOut a b n (i + 1) (mulRow (a.getD i 0) b i O)
def mulF (a b : List (BitVec 64)) : List (BitVec 64) := mulOut a b a.length 0 (List.replicate (a.length + b.length + 1) 0)
theorem mulIn_len (a : BitVec 64) (b : List (BitVec 64)) (i : Nat) : ∀ n k O c, (mulIn a b i n k O c).1.length = O.length
  | 0, _, _, _ => rfl
  | n + 1, k, O, c => by rw [mulIn, mulIn_len a b i n]; simp
theorem mulRow_len (a : BitVec 64) (b : List (BitVec 64)) (i : Nat) (O : List (BitVec 64)) : (mulRow a b i O).length = O.length := by rw [mulRow, List.length_set, mulIn_len]
theorem mulOut_len (a b : List (BitVec 64)) : ∀ n i O, (mulOut a b n i O).length = O.length
  | 0, _, _ => rfl
  | n + 1, i, O => by rw [mulOut, mulOut_len a b n, mulRow_len]
theorem mulF_len (a b : List (BitVec 64)) : (mulF a b).length = a.length + b.length + 1 := by rw [mulF, mulOut_len]; simp
theorem us_zeros (m : Nat) : (ints .u64 (List.replicate m 0)).toArray = (us (List.replicate m 0)).toArray := by simp [ints, us, U]

set_option maxRecDepth 100000 in
set_option maxHeartbeats 4000000 in
theorem mul_any (ga gb : Nat) (a b : List (BitVec 64)) (ca cb : Nat) (w : World) (hla : a.length ≤ 100) (hlb : b.length ≤ 100) (ha : w.heap[ga]? = some (.cells (us a).toArray 40)) (hb : w.heap[gb]? = some (.cells (us b).toArray 40)) :
    Calls Try.prog 27 #[.slice (some ⟨ga, 0, none⟩) a.length ca, .slice (some ⟨gb, 0, none⟩) b.length cb] w fun e w' => ∃ g, e = .returned (.slice (some ⟨g, 0, none⟩) (a.length + b.length + 1) (a.length + b.length + 1)) ∧ w.heap.size ≤ g ∧ w'.heap[g]? = some (.cells (us (mulF a b)).toArray 40) ∧ Below w.heap.size w w' := by
  obtain ⟨i0, hi, hz0, hz1, hz2⟩ := info_parts (show (Try.prog.info? 40).map (fun i => (i.zero, i.size, i.bytes)) = some (some (.int .u64 0), 1, 8) by kernel_rfl)
  have hmk := run_make_ints (P := Try.prog) w 38 40 .u64 8 Try.underlying38 hi hz0 hz1 hz2 (a.length + b.length + 1) (by omega) (by omega)
  rw [us_zeros] at hmk
  rw [show ((a.length + b.length + 1 : Nat) : Int) = (a.length : Int) + (b.length : Int) + 1 by omega] at hmk
  have HA := Lib.hid (blk_alloc ha (.cells (us (List.replicate (a.length + b.length + 1) 0)).toArray 40))
  have HB := Lib.hid (blk_alloc hb (.cells (us (List.replicate (a.length + b.length + 1) 0)).toArray 40))
  have HG := Lib.hid (heap_alloc_new w (.cells (us (List.replicate (a.length + b.length + 1) 0)).toArray 40))
  have HW := Lib.hid ((Below.refl w.heap.size w).alloc (Nat.le_refl _) (.cells (us (List.replicate (a.length + b.length + 1) 0)).toArray 40))
  have HNA := Lib.hid (show ga < w.heap.size from (Array.getElem?_eq_some_iff.1 ha).1)
  have HNB := Lib.hid (show gb < w.heap.size from (Array.getElem?_eq_some_iff.1 hb).1)
  generalize hF : mulF a b = F
  have HF := Lib.hid (show mulOut a b a.length 0 (List.replicate (a.length + b.length + 1) 0) = F ∧ True from ⟨hF, trivial⟩)
  clear ha hb hF
  go_enter Try.func27, Try.ntmps27
  go_wp2
  clear hmk
  generalize w.alloc (.cells (us (List.replicate (a.length + b.length + 1) 0)).toArray 40) = w1 at HA HB HG HW ⊢
  go_loopw [6] (fun vi wr => ∃ (i : Nat) (O : List (BitVec 64)), i ≤ a.length ∧ vi = .int .i64 i ∧ Hid (O.length = a.length + b.length + 1) ∧ Hid (mulOut a b (a.length - i) i O = F ∧ True) ∧ Hid (wr.heap[ga]? = some (.cells (us a).toArray 40)) ∧ Hid (wr.heap[gb]? = some (.cells (us b).toArray 40)) ∧ Hid (wr.heap[w.heap.size]? = some (.cells (us O).toArray 40)) ∧ Hid (Below w.heap.size w wr)) (fun vi _ => a.length - (intOf vi).toNat)
  case atStart => exact ⟨0, _, by omega, rfl, Lib.hid (by simp), HF, HA, HB, HG, HW⟩
  case round =>
    clear HA HB HG HW HF
    obtain ⟨i, O, hi, rfl, hO, hX, HA, HB, HG, HW⟩ := hrel
    by_cases hlt : i < a.length
    · obtain ⟨ai, hai⟩ : ∃ x, a.getD i 0 = x := ⟨_, rfl⟩
      have hal : (decide ((i : Int) < (a.length : Int))) = true := decide_eq_true (by omega)
      generalize hI : mulIn ai b i b.length 0 O 0 = I
      have HI := Lib.hid (And.intro hI trivial)
      have HAI := Lib.hid hai
      have HX := Lib.hid (show mulOut a b (a.length - (i + 1)) (i + 1) (I.1.set (i + b.length) (I.1.getD (i + b.length) 0 + I.2)) = F ∧ True from ⟨by
        rw [← hX.out.1, show a.length - i = (a.length - (i + 1)) + 1 by omega, mulOut, mulRow, hai, hI], trivial⟩)
      have HIL := Lib.hid (show I.1.length = a.length + b.length + 1 by rw [← hI, mulIn_len]; exact hO.out)
      clear hI hai hX
      go_wp2
      go_loopw [7, 8] (fun vc vk wq => ∃ (k : Nat) (N : List (BitVec 64)) (c : BitVec 64), k ≤ b.length ∧ vk = .int .i64 k ∧ vc = .int .u64 (c.toNat : Int) ∧ Hid (N.length = a.length + b.length + 1) ∧ Hid (mulIn ai b i (b.length - k) k N c = I ∧ True) ∧ Hid (wq.heap[ga]? = some (.cells (us a).toArray 40)) ∧ Hid (wq.heap[gb]? = some (.cells (us b).toArray 40)) ∧ Hid (wq.heap[w.heap.size]? = some (.cells (us N).toArray 40)) ∧ Hid (Below w.heap.size w wq)) (fun _ vk _ => b.length - (intOf vk).toNat)
      case atStart => exact ⟨0, O, 0, by omega, rfl, rfl, hO, HI, HA, HB, HG, HW⟩
      case round =>
        clear HA HB HG HW HI hO
        obtain ⟨k, N, c, hk, rfl, rfl, hN, hX, HA, HB, HG, HW⟩ := hrel
        by_cases hkl : k < b.length
        · obtain ⟨bk, hbk⟩ : ∃ x, b.getD k 0 = x := ⟨_, rfl⟩
          obtain ⟨nk, hnk⟩ : ∃ x, N.getD (i + k) 0 = x := ⟨_, rfl⟩
          have c1 : wr.cell? ⟨ga, i, none⟩ = some (.int .u64 (ai.toNat : Int)) := by rw [← HAI.out]; exact us_cell HA.out i hlt
          have c2 : wr.cell? ⟨gb, k, none⟩ = some (.int .u64 (bk.toNat : Int)) := by rw [← hbk]; exact us_cell HB.out k hkl
          have c3 : wr.cell? ⟨w.heap.size, i + k, none⟩ = some (.int .u64 (nk.toNat : Int)) := by rw [← hnk]; exact us_cell HG.out (i + k) (by rw [hN.out]; omega)
          have HNX := Lib.hid (show mulIn ai b i (b.length - k) k N c = mulIn ai b i (b.length - (k + 1)) (k + 1) (N.set (i + k) ((ai * bk + nk + c) &&& 4294967295#64)) ((ai * bk + nk + c) >>> 32) by
            rw [show b.length - k = (b.length - (k + 1)) + 1 by omega, mulIn, hbk, hnk])
          clear hbk hnk
          have e1 : IntKind.i64.wrap ((i : Int) + (k : Int)) = (i : Int) + (k : Int) := IntWalk.i64_in _ (by omega)
          have p1 : (0 : Int) ≤ (i : Int) := by omega
          have p2 : (0 : Int) ≤ (k : Int) := by omega
          have p3 : (0 : Int) ≤ (i : Int) + (k : Int) := by omega
          have q1 : (i : Int) < (a.length : Int) := by omega
          have q2 : (k : Int) < (b.length : Int) := by omega
          have q3 : (i : Int) + (k : Int) < (a.length : Int) + (b.length : Int) + 1 := by omega
          have t3 : ((i : Int) + (k : Int)).toNat = i + k := by omega
          go_wp2
          go_quiet (fail)
          simp only [u_mul, u_add]
          generalize ai * bk + nk + c = x at HNX ⊢
          have hA' := Lib.hid (show (wr.drewN nq).heap[ga]? = some (.cells (us a).toArray 40) from HA.out)
          have hB' := Lib.hid (show (wr.drewN nq).heap[gb]? = some (.cells (us b).toArray 40) from HB.out)
          have hG' := Lib.hid (show (wr.drewN nq).heap[w.heap.size]? = some (.cells (us N).toArray 40) from HG.out)
          have hW' := Lib.hid (below_drewN HW.out nq)
          have d3 : (wr.drewN nq).cell? ⟨w.heap.size, i + k, none⟩ = some (.int .u64 (nk.toNat : Int)) := c3
          clear c1 c2 c3 HA HB HG HW
          generalize wr.drewN nq = wq at hA' hB' hG' hW' d3 ⊢
          have df : wq.frozen? ⟨w.heap.size, i + k, none⟩ = false := blk_free hG'.out (i + k)
          have HV1 := Lib.hid (u_and x 4294967295#64)
          have HV2 := Lib.hid (u_shr x 32)
          go_wp2
          go_roundw
          case rel =>
            refine ⟨k + 1, N.set (i + k) (x &&& 4294967295#64), x >>> 32, by omega, by go_num, congrArg (Value.int .u64) HV2.out, Lib.hid (by rw [List.length_set]; exact hN.out), Lib.hid ⟨by rw [← HNX.out]; exact hX.out.1, trivial⟩, Lib.hid (blk_set_far hA'.out (by have := HNA.out; simp; omega) _), Lib.hid (blk_set_far hB'.out (by have := HNB.out; simp; omega) _), Lib.hid (us_put2 hG'.out (i + k) _ _ HV1.out), Lib.hid (hW'.out.setCell (Nat.le_refl _) _)⟩
          case measure => simp [intOf]; omega
        · obtain rfl : k = b.length := by omega
          obtain rfl : I = (N, c) := by have := hX.out.1; rw [Nat.sub_self, mulIn] at this; exact this.symm
          clear hX
          obtain ⟨nk, hnk⟩ : ∃ x, N.getD (i + b.length) 0 = x := ⟨_, rfl⟩
          have c3 : wr.cell? ⟨w.heap.size, i + b.length, none⟩ = some (.int .u64 (nk.toNat : Int)) := by rw [← hnk]; exact us_cell HG.out (i + b.length) (by rw [hN.out]; omega)
          have HNK := Lib.hid hnk
          have cf := blk_free HG.out (i + b.length)
          clear hnk
          go_wp2
          go_roundw
          case rel =>
            refine ⟨i + 1, N.set (i + b.length) (N.getD (i + b.length) 0 + c), by omega, by go_num, Lib.hid (by rw [List.length_set]; exact hN.out), HX, Lib.hid (blk_set_far HA.out (by have := HNA.out; simp; omega) _), Lib.hid (blk_set_far HB.out (by have := HNB.out; simp; omega) _), Lib.hid (us_put2 HG.out (i + b.length) _ _ (by rw [u_add, HNK.out])), Lib.hid (HW.out.setCell (Nat.le_refl _) _)⟩
          case measure => simp [intOf]; omega
    · obtain rfl : i = a.length := by omega
      obtain rfl : O = F := by have := hX.out.1; rw [Nat.sub_self, mulOut] at this; exact this
      go_wp2
      go_ret
      exact ⟨_, rfl, Nat.le_refl _, HG.out, HW.out⟩
end Go.Proofs.Ytkodmicocjklcaa
