/- rhzlaw1.NumOrder: the walk: whatever came in, the call answers true and writes nothing that was there. -/
import Derived.Test.YtpgnddopnblflaaFirst1
import Derived.Test.YtpgnddopnblflaaBe
namespace Go.Proofs.Ytpgnddopnblflaa
open Go.RowKit

/-- One of a good width: what the test says of the two ends. -/
theorem limit_eq (a width : Nat) (h6 : width ≤ 6) : ((a : Int) < wrap64 (2 ^ (8 * width))) ↔ a < 256 ^ width := by
  have hp : (2 : Nat) ^ (8 * width) = 256 ^ width := by rw [Nat.pow_mul]
  have hle : 256 ^ width ≤ 256 ^ 6 := Nat.pow_le_pow_right (by decide) h6
  have hw : wrap64 ((2 : Int) ^ (8 * width)) = ((256 ^ width : Nat) : Int) := by
    have : ((2 : Int) ^ (8 * width)) = ((2 ^ (8 * width) : Nat) : Int) := by simp
    rw [this, hp]
    generalize 256 ^ width = z at hle
    unfold wrap64
    omega
  rw [hw]
  omega

set_option maxHeartbeats 1000000 in
/-- No such width. -/
theorem order_bad (a b width : Int) (w : World) (ha : a ≤ 9223372036854775807) (hb : b ≤ 9223372036854775807) (hw : width < 1 ∨ 6 < width) :
    Calls Try.prog 4 #[.int .i64 a, .int .i64 b, .int .i64 width] w fun e w' => e = .returned (.bool true) ∧ Below w.heap.size w w' := by
  have hB0 := Below.refl w.heap.size w
  have h1 := Lib.hid (putF_bad (n := a) (width := width) (by omega))
  have h2 := Lib.hid (putF_bad (n := b) (width := width) (by omega))
  rcases hw with hw | hw
  all_goals
    go_enter Try.func4, Try.ntmps4
    go_wp2_with (go_at_call 9; refine (first_any _).mono ?_; rintro e w1 ⟨rfl, hb1⟩; replace hB0 := below_then hB0 hb1; clear hb1)
    refine (put_any a width _ ha).mono ?_
    rw [h1.out]
    rintro _ w2 ⟨rfl, hb2⟩
    replace hB0 := below_then hB0 hb2
    clear hb2
    go_wp2_with fail
    refine (put_any b width _ hb).mono ?_
    rw [h2.out]
    rintro _ w3 ⟨rfl, hb2⟩
    replace hB0 := below_then hB0 hb2
    clear hb2
    go_wp2_with (go_at_call 9; refine (first_any _).mono ?_; rintro e w1 ⟨rfl, hb1⟩; replace hB0 := below_then hB0 hb1; clear hb1)
    go_ret
    exact ⟨rfl, hB0⟩

set_option maxHeartbeats 2000000 in
/-- A width that may be; at least one number has no place. -/
theorem order_none (a b : Int) (width : Nat) (w : World) (x y : ByteArray) (e f : Int) (ha : a ≤ 9223372036854775807) (hb : b ≤ 9223372036854775807) (h0 : 0 < (width : Int)) (h6 : (width : Int) ≤ 6)
    (h1 : Hid (putF a width = (x, e))) (h2 : Hid (putF b width = (y, f)))
    (hc : (e = 1 ∧ x = ⟨#[]⟩ ∧ a < 0 ∧ (f = 0 ∨ f = 1 ∧ y = ⟨#[]⟩)) ∨ (e = 1 ∧ x = ⟨#[]⟩ ∧ 0 ≤ a ∧ decide (a < wrap64 (2 ^ (8 * width))) = false ∧ (f = 0 ∨ f = 1 ∧ y = ⟨#[]⟩)) ∨ (e = 0 ∧ 0 ≤ a ∧ decide (a < wrap64 (2 ^ (8 * width))) = true ∧ f = 1 ∧ y = ⟨#[]⟩)) :
    Calls Try.prog 4 #[.int .i64 a, .int .i64 b, .int .i64 width] w fun e w' => e = .returned (.bool true) ∧ Below w.heap.size w w' := by
  have hB0 := Below.refl w.heap.size w
  have hone : 1 ≤ (width : Int) := by omega
  rcases hc with ⟨rfl, rfl, hn, rfl | ⟨rfl, rfl⟩⟩ | ⟨rfl, rfl, hn, hd, rfl | ⟨rfl, rfl⟩⟩ | ⟨rfl, hn, hd, rfl, rfl⟩
  all_goals
    go_enter Try.func4, Try.ntmps4
    go_wp2_with (go_at_call 9; refine (first_any _).mono ?_; rintro e w1 ⟨rfl, hb1⟩; replace hB0 := below_then hB0 hb1; clear hb1)
    refine (put_any a width _ ha).mono ?_
    rw [h1.out]
    rintro _ w2 ⟨rfl, hb2⟩
    replace hB0 := below_then hB0 hb2
    clear hb2
    go_wp2_with fail
    refine (put_any b width _ hb).mono ?_
    rw [h2.out]
    rintro _ w3 ⟨rfl, hb2⟩
    replace hB0 := below_then hB0 hb2
    clear hb2
    go_wp2_with (go_at_call 9; refine (first_any _).mono ?_; rintro e w1 ⟨rfl, hb1⟩; replace hB0 := below_then hB0 hb1; clear hb1)
    go_ret
    exact ⟨rfl, hB0⟩

set_option maxHeartbeats 2000000 in
/-- Both have a place. -/
theorem order_both (a b : Int) (width : Nat) (w : World) (x y : ByteArray) (ha : a ≤ 9223372036854775807) (hb : b ≤ 9223372036854775807) (h0 : 0 < (width : Int)) (h6 : (width : Int) ≤ 6)
    (h1 : Hid (putF a width = (x, 0))) (h2 : Hid (putF b width = (y, 0))) (hn : 0 ≤ a) (hd : decide (a < wrap64 (2 ^ (8 * width))) = true)
    (hx : x.size = width) (hy : y.size = width) (hl : Op.bytesLess x.toList y.toList = decide (a < b)) (he : (x.toList == y.toList) = (a == b)) :
    Calls Try.prog 4 #[.int .i64 a, .int .i64 b, .int .i64 width] w fun e w' => e = .returned (.bool true) ∧ Below w.heap.size w w' := by
  have hB0 := Below.refl w.heap.size w
  have hone : 1 ≤ (width : Int) := by omega
  go_enter Try.func4, Try.ntmps4
  go_wp2_with (go_at_call 9; refine (first_any _).mono ?_; rintro e w1 ⟨rfl, hb1⟩; replace hB0 := below_then hB0 hb1; clear hb1)
  refine (put_any a width _ ha).mono ?_
  rw [h1.out]
  rintro _ w2 ⟨rfl, hb2⟩
  replace hB0 := below_then hB0 hb2
  clear hb2
  go_wp2_with fail
  refine (put_any b width _ hb).mono ?_
  rw [h2.out]
  rintro _ w3 ⟨rfl, hb2⟩
  replace hB0 := below_then hB0 hb2
  clear hb2
  go_wp2_with (go_at_call 9; refine (first_any _).mono ?_; rintro e w1 ⟨rfl, hb1⟩; replace hB0 := below_then hB0 hb1; clear hb1)
  go_ret
  exact ⟨by simp, hB0⟩

theorem order_walk (a b width : Int) (w : World) (ha : a ≤ 9223372036854775807) (hb : b ≤ 9223372036854775807) :
    Calls Try.prog 4 #[.int .i64 a, .int .i64 b, .int .i64 width] w fun e w' => e = .returned (.bool true) ∧ Below w.heap.size w w' := by
  by_cases hw : width < 1 ∨ 6 < width
  · exact order_bad a b width w ha hb hw
  · obtain ⟨m, rfl⟩ := Int.eq_ofNat_of_zero_le (show 0 ≤ width by omega)
    have hm : 0 < m ∧ m ≤ 6 := by omega
    have hneg : ∀ n : Int, n < 0 → putF n m = (⟨#[]⟩, 1) := fun n h => putF_bad (by omega)
    have hf : ∀ n : Int, (putF n m).2 = 0 ∨ (putF n m).2 = 1 ∧ (putF n m).1 = ⟨#[]⟩ := fun n => by
      by_cases h : n < 0
      · rw [hneg n h]; exact .inr ⟨rfl, rfl⟩
      · obtain ⟨n, rfl⟩ := Int.eq_ofNat_of_zero_le (show 0 ≤ n by omega)
        rw [putF_nat n m hm.1 hm.2]
        split
        · exact .inl rfl
        · exact .inr ⟨rfl, rfl⟩
    by_cases h1 : a < 0
    · exact order_none a b m w _ _ _ _ ha hb (by omega) (by omega) (Lib.hid (hneg a h1)) (Lib.hid rfl) (.inl ⟨rfl, rfl, h1, hf b⟩)
    · obtain ⟨p, rfl⟩ := Int.eq_ofNat_of_zero_le (show 0 ≤ a by omega)
      have hl := limit_eq p m hm.2
      by_cases h2 : p < 256 ^ m
      · have hp : putF p m = (⟨(be m p).toArray⟩, 0) := by rw [putF_nat p m hm.1 hm.2, if_pos h2]
        rcases hf b with h3 | ⟨h3, h4⟩
        · have hb0 : ¬ b < 0 := fun h => by rw [hneg b h] at h3; simp at h3
          obtain ⟨q, rfl⟩ := Int.eq_ofNat_of_zero_le (show 0 ≤ b by omega)
          have h5 : q < 256 ^ m := by
            rcases Nat.lt_or_ge q (256 ^ m) with h | h
            · exact h
            · rw [putF_nat q m hm.1 hm.2, if_neg (by omega)] at h3; simp at h3
          have hq : putF q m = (⟨(be m q).toArray⟩, 0) := by rw [putF_nat q m hm.1 hm.2, if_pos h5]
          refine order_both p q m w _ _ ha hb (by omega) (by omega) (Lib.hid hp) (Lib.hid hq) (by omega) (decide_eq_true (hl.2 h2)) (be_len m p) (be_len m q) ?_ ?_
          · rw [ByteArray.toList_mk, ByteArray.toList_mk, be_less m p q h2 h5]
            exact decide_eq_decide.2 (by omega)
          · rw [ByteArray.toList_mk, ByteArray.toList_mk, be_eq m p q h2 h5, Bool.eq_iff_iff]
            simp
            omega
        · exact order_none p b m w _ _ _ _ ha hb (by omega) (by omega) (Lib.hid hp) (Lib.hid rfl) (.inr (.inr ⟨rfl, by omega, decide_eq_true (hl.2 h2), h3, h4⟩))
      · have hp : putF p m = (⟨#[]⟩, 1) := by rw [putF_nat p m hm.1 hm.2, if_neg h2]
        exact order_none p b m w _ _ _ _ ha hb (by omega) (by omega) (Lib.hid hp) (Lib.hid rfl) (.inr (.inl ⟨rfl, rfl, by omega, decide_eq_false (fun h => h2 (hl.1 h)), hf b⟩))
end Go.Proofs.Ytpgnddopnblflaa
