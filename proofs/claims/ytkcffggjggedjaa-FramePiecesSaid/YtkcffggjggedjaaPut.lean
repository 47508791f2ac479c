/- num.wide and num.Put: what the calls come to, as plain functions. -/
import Derived.Test.YtkcffggjggedjaaBase
namespace Go.Proofs.Ytkcffggjggedjaa
open Go.RowKit

set_option maxHeartbeats 400000 in
theorem wide_any (n : Int) (w : World) : Calls Try.prog 25 #[.int .i64 n] w fun e w' => e = .returned (.bool (decide (0 < n ∧ n ≤ 6))) ∧ w = w' := by
  by_cases h : 0 < n
  · go_enter Try.func25, Try.ntmps25
    go_wp2
    go_ret
    refine ⟨?_, rfl⟩
    simp [h]
  · go_enter Try.func25, Try.ntmps25
    go_wp2
    go_ret
    refine ⟨?_, rfl⟩
    simp; omega

def putLoop : Nat → Int → List Int → Int × List Int
  | 0, n, cs => (n, cs)
  | k + 1, n, cs => putLoop k (n / 256) (cs.set k (n % 256))
def putF (n width : Int) : ByteArray × Int :=
  if 0 ≤ n ∧ 0 < width ∧ width ≤ 6 then (if (putLoop width.toNat n [0,0,0,0,0,0]).1 = 0 then (strOfNums ((putLoop width.toNat n [0,0,0,0,0,0]).2.take width.toNat), 0) else (⟨#[]⟩, 1)) else (⟨#[]⟩, 1)
theorem putF_bad {n width : Int} (h : ¬ (0 ≤ n ∧ 0 < width ∧ width ≤ 6)) : putF n width = (⟨#[]⟩, 1) := if_neg h

set_option maxHeartbeats 400000 in
theorem put_any (n width : Int) (w : World) (hN : n ≤ 9223372036854775807) : Calls Try.prog 23 #[.int .i64 n, .int .i64 width] w (TextErr (putF n width) w) := by
  by_cases hn : 0 ≤ n
  · by_cases hw : 0 < width ∧ width ≤ 6
    · obtain ⟨h0, h6⟩ := hw
      have HP : Hid (putF n width = if (putLoop width.toNat n [0,0,0,0,0,0]).1 = 0 then (strOfNums ((putLoop width.toNat n [0,0,0,0,0,0]).2.take width.toNat), 0) else (⟨#[]⟩, 1)) := if_pos ⟨hn, h0, h6⟩
      go_enter Try.func23, Try.ntmps23
      go_wp2_with (go_at_call 25; refine (wide_any _ _).mono ?_; rintro e w' ⟨rfl, rfl⟩)
      go_loopw [0, 7] (fun vn vi wr => ∃ (k : Nat) (m : Int) (cs : List Int), (k : Int) ≤ width ∧ 0 ≤ m ∧ m ≤ 9223372036854775807 ∧ vi = .int .i64 k ∧ vn = .int .i64 m ∧ Hid (cs.length = 6) ∧ Hid (putLoop k m cs = putLoop width.toNat n [0,0,0,0,0,0]) ∧ Hid (wr.heap[w.heap.size]? = some (.cells (u8s cs).toArray 57)) ∧ Below w.heap.size w wr) (fun _ vi _ => (intOf vi).toNat)
      case atStart => exact ⟨width.toNat, n, [0,0,0,0,0,0], by omega, by omega, by omega, by rw [Int.toNat_of_nonneg (by omega)], rfl, rfl, rfl, heap_alloc_new _ _, (Below.refl _ _).alloc (Nat.le_refl _) _⟩
      case round =>
        obtain ⟨k, m, cs, hk, hm0, hm1, rfl, rfl, hl, hp, hh, hb⟩ := hrel
        rcases k with _ | k
        · have hcv := run_convert_bytes_arg (P := Try.prog) wr 23 5 Try.underlying23 Try.underlying5 w.heap.size 0 width.toNat 6 (cs.take width.toNat) (by rw [List.length_take, hl.out]; omega) (fun i hi => by
            rw [Nat.zero_add, u8s_cell hh.out i (by rw [hl.out]; omega)]; congr 2; simp [List.getD_eq_getElem?_getD, hi]) 9 Try.underlying9
          have hsl := run_sliceAt_arr_h (P := Try.prog) wr 57 5 6 1 Try.underlying57 (fun w => by kernel_rfl) ⟨w.heap.size, 0, none⟩ .i64 width (by omega) (by omega)
          by_cases hz : m = 0
          · have hz' : ((m == 0) = true) := beq_iff_eq.2 hz
            go_wp2
            go_ret2
            refine ⟨?_, hb⟩
            rw [HP.out, ← hp.out]; simp [putLoop, hz]
          · have hz' : ((m == 0) = false) := beq_eq_false_iff_ne.2 hz
            clear hcv hsl
            go_wp2
            go_ret2
            refine ⟨?_, hb⟩
            rw [HP.out, ← hp.out]; simp [putLoop, hz]
        · have hc : wr.cell? ⟨w.heap.size, k, none⟩ = some (.int .u8 (cs.getD k 0)) := u8s_cell hh.out k (by rw [hl.out]; omega)
          have hf : wr.frozen? ⟨w.heap.size, k, none⟩ = false := blk_free hh.out k
          go_wp2
          go_roundw
          case rel => exact ⟨k, m / 256, cs.set k (m % 256), by omega, by omega, by omega, by go_num, by go_num, (by rw [List.length_set]; exact hl.out), hp.out, u8s_put hh.out k _, hb.setCell (Nat.le_refl _) _⟩
          case measure => simp [intOf]
    · have hd : decide (0 < width ∧ width ≤ 6) = false := decide_eq_false hw
      go_enter Try.func23, Try.ntmps23
      go_wp2_with (go_at_call 25; refine (wide_any _ _).mono ?_; rintro e w' ⟨rfl, rfl⟩)
      all_goals
        go_ret2
        exact ⟨by rw [putF_bad (by omega)]; rfl, Below.refl _ _⟩
  · go_enter Try.func23, Try.ntmps23
    go_wp2
    go_ret2
    exact ⟨by rw [putF_bad (by omega)]; rfl, Below.refl _ _⟩
end Go.Proofs.Ytkcffggjggedjaa
