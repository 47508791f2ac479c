/- num.Get, num.Join and num.Crc: what the calls come to, as plain functions. -/
import Derived.Test.YtpgnddopnblflaaPut
namespace Go.Proofs.Ytpgnddopnblflaa
open Go.RowKit

/-! ### Get -/
def getLoop : Nat → List UInt8 → Nat
  | n, [] => n
  | n, c :: l => getLoop (256 * n + c.toNat) l
def getF (s : ByteArray) (at_ width : Int) : Int × Int :=
  if 0 < width ∧ width ≤ 6 ∧ 0 ≤ at_ ∧ at_ ≤ s.size then
    (if (s.size : Int) - at_ < width then (0, 2) else (((getLoop 0 (((s.extract at_.toNat s.size).extract 0 width.toNat).data.toList) : Nat) : Int), 0))
  else (0, 1)
theorem getF_short {s : ByteArray} {at_ width : Int} (h : 0 < width ∧ width ≤ 6 ∧ 0 ≤ at_ ∧ at_ ≤ s.size) (h1 : (s.size : Int) - at_ < width) : getF s at_ width = (0, 2) := by unfold getF; rw [if_pos h, if_pos h1]
theorem getF_got {s : ByteArray} {at_ width : Int} (h : 0 < width ∧ width ≤ 6 ∧ 0 ≤ at_ ∧ at_ ≤ s.size) (h1 : ¬ (s.size : Int) - at_ < width) :
    getF s at_ width = (((getLoop 0 (((s.extract at_.toNat s.size).extract 0 width.toNat).data.toList) : Nat) : Int), 0) := by unfold getF; rw [if_pos h, if_neg h1]
theorem getF_bad {s : ByteArray} {at_ width : Int} (h : ¬ (0 < width ∧ width ≤ 6 ∧ 0 ≤ at_ ∧ at_ ≤ s.size)) : getF s at_ width = (0, 1) := if_neg h
theorem get_step {q k c : Nat} (hq : q < 256 ^ k) (hc : c < 256) : 256 * q + c < 256 ^ (k + 1) := by
  have : 256 ^ (k + 1) = 256 ^ k * 256 := Nat.pow_succ _ _
  omega
theorem pow6 {k : Nat} (h : k ≤ 6) : 256 ^ k ≤ 281474976710656 := Nat.le_trans (Nat.pow_le_pow_right (by decide) h) (by decide)

set_option maxHeartbeats 400000 in
theorem get_any (s : ByteArray) (at_ width : Int) (w : World) : Calls Try.prog 15 #[.string s, .int .i64 at_, .int .i64 width] w (NumErr (getF s at_ width) w) := by
  by_cases hw : 0 < width ∧ width ≤ 6
  · by_cases ha : 0 ≤ at_ ∧ at_ ≤ s.size
    · obtain ⟨h0, h6⟩ := hw
      obtain ⟨a0, a1⟩ := ha
      obtain ⟨p, rfl⟩ := Int.eq_ofNat_of_zero_le a0
      obtain ⟨m, rfl⟩ := Int.eq_ofNat_of_zero_le (Int.le_of_lt h0)
      by_cases hsh : (s.size : Int) - p < m
      · have HP := Lib.hid (getF_short ⟨h0, h6, a0, a1⟩ hsh)
        have hlen : ((s.extract p s.size).size : Int) < m := by simp; omega
        go_enter Try.func15, Try.ntmps15
        go_wp2_with (go_at_call 22; refine (wide_any _ _).mono ?_; rintro e w' ⟨rfl, rfl⟩)
        go_ret2
        exact ⟨by rw [HP.out]; rfl, Below.refl _ _⟩
      · have hg := getF_got ⟨h0, h6, a0, a1⟩ hsh
        rw [Int.toNat_natCast, Int.toNat_natCast] at hg
        have HP := Lib.hid hg
        clear hg
        have hlen : ¬ ((s.extract p s.size).size : Int) < m := by simp; omega
        have hcb := fun (s : ByteArray) => Lib.run_convert_string_bytes (P := Try.prog) w 9 31 5 s Try.underlying9 Try.underlying31 Try.underlying5
        have hmin : min m (s.size - p) = m := by omega
        have HZ := Lib.hid (show ((s.extract p s.size).extract 0 m).size = m by simp; omega)
        go_enter Try.func15, Try.ntmps15
        go_wp2_with (go_at_call 22; refine (wide_any _ _).mono ?_; rintro e w' ⟨rfl, rfl⟩)
        generalize ht : (s.extract p s.size).extract 0 m = t at HZ HP ⊢
        have hB := Lib.hid ((Below.refl w.heap.size w).trans (⟨rfl, rfl, rfl, by rw [Lib.bytesWorld_size]; omega, fun i hi => Lib.bytesWorld_at_old w 5 t i hi⟩ : Below w.heap.size w (Lib.bytesWorld w 5 t)))
        clear ht hcb
        go_loop [8, 36] (fun vn vi => ∃ (k n : Nat), k ≤ m ∧ vi = .int .i64 k ∧ vn = .int .i64 n ∧ Hid (n < 256 ^ k ∧ getLoop n (t.data.toList.drop k) = getLoop 0 t.data.toList)) (fun _ vi => m - (intOf vi).toNat)
        case atStart => exact ⟨0, 0, by omega, rfl, rfl, ⟨by decide, rfl⟩⟩
        case round =>
          obtain ⟨k, n, hk, rfl, rfl, hr⟩ := hrel
          by_cases hlt : k < m
          · have hc : (Lib.bytesWorld w 5 t).cell? ⟨w.heap.size, k, none⟩ = some (.int .u8 ((byteAt t k : Nat) : Int)) := Lib.bytesWorld_cell w 5 t k (by rw [HZ.out]; exact hlt)
            have hb := byteAt_lt t k
            have hn : n ≤ 1099511627776 := by have := pow6 (k := k) (by omega); have h5 : 256 ^ k ≤ 256 ^ 5 := Nat.pow_le_pow_right (by decide) (by omega); have := hr.out.1; omega
            go_wp2
            go_round
            case rel => exact ⟨k + 1, 256 * n + byteAt t k, by omega, by go_num, by go_num, ⟨get_step hr.out.1 hb, by rw [← hr.out.2, drop_byte t k (by rw [HZ.out]; exact hlt)]; rfl⟩⟩
            case measure => simp [intOf]; omega
          · obtain rfl : k = m := by omega
            go_wp2
            go_ret2
            refine ⟨?_, hB.out⟩
            rw [HP.out, ← hr.out.2, drop_byte_end t k (by rw [HZ.out]; exact Nat.le_refl _)]; rfl
    · have hd : decide (0 < width ∧ width ≤ 6) = true := decide_eq_true hw
      by_cases hneg : at_ < 0
      · go_enter Try.func15, Try.ntmps15
        go_wp2_with (go_at_call 22; refine (wide_any _ _).mono ?_; rintro e w' ⟨rfl, rfl⟩)
        go_ret2
        exact ⟨by rw [getF_bad (by omega)]; rfl, Below.refl _ _⟩
      · obtain ⟨p, rfl⟩ := Int.eq_ofNat_of_zero_le (show 0 ≤ at_ by omega)
        have hp : s.size < p := by omega
        go_enter Try.func15, Try.ntmps15
        go_wp2_with (go_at_call 22; refine (wide_any _ _).mono ?_; rintro e w' ⟨rfl, rfl⟩)
        go_ret2
        exact ⟨by rw [getF_bad (by omega)]; rfl, Below.refl _ _⟩
  · have hd : decide (0 < width ∧ width ≤ 6) = false := decide_eq_false hw
    go_enter Try.func15, Try.ntmps15
    go_wp2_with (go_at_call 22; refine (wide_any _ _).mono ?_; rintro e w' ⟨rfl, rfl⟩)
    all_goals
      go_ret2
      exact ⟨by rw [getF_bad (by omega)]; rfl, Below.refl _ _⟩
end Go.Proofs.Ytpgnddopnblflaa
