/- rhzlaw1.NumParts: the walk: whatever came in, the call answers true and writes nothing that was there. -/
import Derived.Test.YtpgnddopnblflaaFirst1
namespace Go.Proofs.Ytpgnddopnblflaa
open Go.RowKit

/-! ### the plain law -/
theorem joinLoop_out (width : Int) : ∀ (l : List Int) (out : ByteArray), joinLoop width out l = if (joinLoop width ⟨#[]⟩ l).2 = 0 then (out ++ (joinLoop width ⟨#[]⟩ l).1, 0) else (⟨#[]⟩, (joinLoop width ⟨#[]⟩ l).2)
  | [], out => by simp [joinLoop, app_nil]
  | n :: l, out => by
    have h1 := joinLoop_out width l (out ++ (putF n width).1)
    have h2 := joinLoop_out width l (⟨#[]⟩ ++ (putF n width).1)
    simp only [joinLoop]
    by_cases hp : (putF n width).2 = 0
    · simp only [hp, if_true]
      rw [h1, h2]
      by_cases hj : (joinLoop width ⟨#[]⟩ l).2 = 0
      · simp [hj, ByteArray.append_assoc, nil_app]
      · simp [hj]
    · simp [hp]
theorem joinLoop_err (width : Int) : ∀ (l : List Int) (out : ByteArray), (joinLoop width out l).2 = 0 ∨ (joinLoop width out l).2 = 1
  | [], _ => .inl rfl
  | n :: l, out => by
    simp only [joinLoop]
    split
    · exact joinLoop_err width l _
    · rename_i h
      exact .inr ((putF_err n width).resolve_left h)
theorem joinF_err (width : Int) (l : List Int) : (joinF width l).2 = 0 ∨ (joinF width l).2 = 1 := by
  unfold joinF
  split
  · exact joinLoop_err _ _ _
  · exact .inr rfl
theorem joinLoop_append (width : Int) : ∀ (a b : List Int) (out : ByteArray), joinLoop width out (a ++ b) = if (joinLoop width out a).2 = 0 then joinLoop width (joinLoop width out a).1 b else joinLoop width out a
  | [], b, out => by simp [joinLoop]
  | n :: a, b, out => by
    simp only [List.cons_append, joinLoop]
    by_cases hp : (putF n width).2 = 0
    · simp only [hp, if_true]
      exact joinLoop_append width a b _
    · simp [hp]
theorem joinF_append_ok {width : Int} {a b : List Int} (ha : (joinF width a).2 = 0) (hb : (joinF width b).2 = 0) : joinF width (a ++ b) = ((joinF width a).1 ++ (joinF width b).1, 0) := by
  unfold joinF at *
  split at ha
  · rename_i h
    rw [if_pos h] at hb ⊢
    rw [if_pos h, if_pos h, joinLoop_append, if_pos ha, joinLoop_out, if_pos hb]
  · simp at ha
theorem joinF_append_bad {width : Int} {a b : List Int} (h : ¬ ((joinF width a).2 = 0 ∧ (joinF width b).2 = 0)) : (joinF width (a ++ b)).2 = 1 := by
  unfold joinF at *
  split
  · rename_i hw
    rw [if_pos hw, if_pos hw] at h
    rw [joinLoop_append]
    by_cases ha : (joinLoop width ⟨#[]⟩ a).2 = 0
    · rw [if_pos ha, joinLoop_out]
      have hb : ¬ (joinLoop width ⟨#[]⟩ b).2 = 0 := fun hb => h ⟨ha, hb⟩
      rw [if_neg hb]
      exact (joinLoop_err width b _).resolve_left hb
    · rw [if_neg ha]
      exact (joinLoop_err width a _).resolve_left ha
  · rfl
theorem joinF_one (n width : Int) : joinF width [n] = putF n width := by
  unfold joinF
  split
  · simp only [joinLoop]
    split
    · rename_i hw hp
      have : putF n width = ((putF n width).1, (putF n width).2) := rfl
      rw [this, hp]; simp [nil_app]
    · rename_i hw hp
      unfold putF at hp ⊢
      by_cases hn : 0 ≤ n ∧ 0 < width ∧ width ≤ 6
      · rw [if_pos hn] at hp ⊢
        by_cases hz : (putLoop width.toNat n [0,0,0,0,0,0]).1 = 0
        · rw [if_pos hz] at hp; exact absurd rfl hp
        · rw [if_neg hz]
      · rw [if_neg hn]
  · rename_i hw
    rw [putF_bad (by omega)]
theorem joinLoop_size (width : Int) : ∀ (l : List Int) (out : ByteArray), (joinLoop width out l).1.size ≤ out.size + 6 * l.length
  | [], out => by simp [joinLoop]
  | n :: l, out => by
    simp only [joinLoop]
    split
    · have := joinLoop_size width l (out ++ (putF n width).1)
      have := putF_size n width
      simp at *; omega
    · show (0 : Nat) ≤ _; omega
theorem joinF_size (width : Int) (l : List Int) : (joinF width l).1.size ≤ 6 * l.length := by
  unfold joinF
  split
  · have h := joinLoop_size width l ⟨#[]⟩
    have e0 : (⟨#[]⟩ : ByteArray).size = 0 := rfl
    omega
  · show (0 : Nat) ≤ _; omega

/-! ### the walk -/
theorem pair_of {α β : Type} {p : α × β} {b : β} (h : p.2 = b) : p = (p.1, b) := by rw [← h]

set_option maxHeartbeats 2000000 in
theorem parts_main (width : Int) (A B : Option Addr) (a b : List Int) (ca cb : Nat) (w : World) (x y z : ByteArray) (e f g : Int)
    (HA : Hid (Ints .i64 w A a)) (HB : Hid (Ints .i64 w B b)) (Ha : Hid (∀ x ∈ a, x ≤ 9223372036854775807)) (Hb : Hid (∀ x ∈ b, x ≤ 9223372036854775807))
    (na : a.length ≤ 500) (nb : b.length ≤ 500) (hx : x.size ≤ 3000) (hy : y.size ≤ 3000)
    (h1 : Hid (joinF width a = (x, e))) (h2 : Hid (joinF width b = (y, f))) (h3 : Hid (joinF width (a ++ b) = (z, g)))
    (hefg : (e = 0 ∧ f = 0 ∧ g = 0 ∧ z = x ++ y) ∨ (e = 0 ∧ f = 1 ∧ g = 1) ∨ (e = 1 ∧ f = 0 ∧ g = 1) ∨ (e = 1 ∧ f = 1 ∧ g = 1)) :
    Calls Try.prog 3 #[.int .i64 width, .slice A a.length ca, .slice B b.length cb] w fun e w' => e = .returned (.bool true) ∧ Below w.heap.size w w' := by
  obtain ⟨i0, hi, hz0, hz1, hz2⟩ := info_parts (show (Try.prog.info? 3).map (fun i => (i.zero, i.size, i.bytes)) = some (some (.int .i64 0), 1, 8) by kernel_rfl)
  have hB0 := Below.refl w.heap.size w
  go_enter Try.func3, Try.ntmps3
  go_wp2_with (go_at_call 9; refine (first_any _).mono ?_; rintro e w1 ⟨rfl, hb1⟩; replace hB0 := below_then hB0 hb1; clear hb1)
  refine (join_any width A a ca _ (by omega) Ha.out (HA.out.below hB0)).mono ?_
  rw [h1.out]
  rintro _ w2 ⟨rfl, hb2⟩
  replace hB0 := below_then hB0 hb2
  clear hb2
  go_wp2_with fail
  refine (join_any width B b cb _ (by omega) Hb.out (HB.out.below hB0)).mono ?_
  rw [h2.out]
  rintro _ w3 ⟨rfl, hb3⟩
  replace hB0 := below_then hB0 hb3
  clear hb3
  have ho := World.ownsRow_lit (base := w3.heap.size) (e := 3) (size := 1) w3 #[] 0 (Nat.le_refl _) (by decide) rfl
  have hBA := hB0.alloc hB0.size (Obj.cells #[] 3)
  have HO := Lib.hid ho
  have HBA := Lib.hid hBA
  have HAs := Lib.hid ((HA.out.below hBA).src Try.underlying22 ca)
  clear ho hBA
  go_wp2_with (first
    | (at_builtin; refine wp_append_src (w0 := w) w3.heap.size 1 8 (.tmp 42) (.tmp 43) 22 22 3 rfl rfl Try.underlying22 hi hz0 hz1 hz2 rfl (by decide) HO.out rfl HAs.out rfl (by unfold maxLen; omega) (by omega) HBA.out (by simp) hB0.size ?_; intro v1 w4 ho4 hb4 hg4 _; clear HAs HBA HO; have HO := Lib.hid ho4; have HBA := Lib.hid hb4; have HBs := Lib.hid ((HB.out.below hb4).src Try.underlying22 cb); have hs4 : w3.heap.size ≤ w4.heap.size := (by have := hg4.size; simp at this; omega); clear ho4 hb4 hg4)
    | (at_builtin; refine wp_append_src (w0 := w) w3.heap.size 1 8 (.tmp 44) (.tmp 45) 22 22 3 rfl rfl Try.underlying22 hi hz0 hz1 hz2 rfl (by decide) HO.out rfl HBs.out rfl (by unfold maxLen; omega) (by omega) HBA.out hs4 hB0.size ?_; intro v2 w5 ho5 hb5 _ _; clear HBs HBA HO; rw [List.nil_append, ints_append] at ho5; obtain ⟨A5, c5, rfl, hI5⟩ := Ints.own ho5; have HI := Lib.hid hI5; have HB5 := Lib.hid hb5; clear ho5 hI5 hB0 hs4 hb5))
  rw [← List.length_append]
  refine (join_any width A5 (a ++ b) c5 _ (by rw [List.length_append]; omega) (fun q hq => (List.mem_append.1 hq).elim (Ha.out q) (Hb.out q)) HI.out).mono ?_
  rw [h3.out]
  rintro _ w6 ⟨rfl, hb6⟩
  have hB0 := below_then HB5.out hb6
  clear HB5 HI hb6
  by_cases hn : a = []
  · have hl0 : a.length = 0 := by rw [hn]; rfl
    rcases hefg with ⟨rfl, rfl, rfl, rfl⟩ | ⟨rfl, rfl, rfl⟩ | ⟨rfl, rfl, rfl⟩ | ⟨rfl, rfl, rfl⟩
    all_goals
      go_wp2_with (go_at_call 9; refine (first_any _).mono ?_; rintro e w1 ⟨rfl, hb1⟩; replace hB0 := below_then hB0 hb1; clear hb1)
      go_ret
      exact ⟨rfl, hB0⟩
  · obtain ⟨bA, oA, rfl, hcA⟩ := (HA.out.below hB0).head hn
    have hl0 : a.length ≠ 0 := fun h => hn (List.length_eq_zero_iff.1 h)
    have hx0 : a.getD 0 0 ≤ 9223372036854775807 := Ha.out _ (by rw [List.getD_eq_getElem?_getD, List.getElem?_eq_getElem (List.length_pos_iff.2 hn)]; exact List.getElem_mem _)
    generalize a.getD 0 0 = a0 at hcA hx0
    have hj1 := joinF_one a0 width
    generalize hpr : putF a0 width = r at hj1
    have HPR := Lib.hid hpr
    have HJ1 := Lib.hid hj1
    clear hpr hj1
    rcases hefg with ⟨rfl, rfl, rfl, rfl⟩ | ⟨rfl, rfl, rfl⟩ | ⟨rfl, rfl, rfl⟩ | ⟨rfl, rfl, rfl⟩
    all_goals
      go_wp2_with (go_at_call 11; refine (put_any a0 width _ hx0).mono ?_; rw [HPR.out]; rintro e w7 ⟨rfl, hb7⟩; have hcB := (hb7.cell (World.block_lt_of_cell? _ _ hcA)).trans hcA; replace hB0 := below_then hB0 hb7; clear hb7)
      refine (join_any width _ [a0] 1 _ (by simp) (fun q hq => by rw [List.mem_singleton.1 hq]; exact hx0) (ints_lit _ .i64 3 [a0])).mono ?_
      rw [HJ1.out]
      rintro e w8 ⟨rfl, hb8⟩
      replace hB0 := below_then (hB0.alloc hB0.size _) hb8
      clear hb8
      go_wp2_with (go_at_call 9; refine (first_any _).mono ?_; rintro e w1 ⟨rfl, hb1⟩; replace hB0 := below_then hB0 hb1; clear hb1)
      go_ret
      exact ⟨rfl, hB0⟩

set_option maxHeartbeats 1000000 in
theorem parts_walk (width : Int) (A B : Option Addr) (a b : List Int) (ca cb : Nat) (w : World) (ha : ∀ x ∈ a, x ≤ 9223372036854775807) (hb : ∀ x ∈ b, x ≤ 9223372036854775807)
    (na : a.length ≤ 9223372036854775807) (nb : b.length ≤ 9223372036854775807) (hA : Ints .i64 w A a) (hB : Ints .i64 w B b) :
    Calls Try.prog 3 #[.int .i64 width, .slice A a.length ca, .slice B b.length cb] w fun e w' => e = .returned (.bool true) ∧ Below w.heap.size w w' := by
  by_cases h1 : 500 < a.length
  · have hB0 := Below.refl w.heap.size w
    clear hA hB ha hb
    go_enter Try.func3, Try.ntmps3
    go_wp2_with (go_at_call 9; refine (first_any _).mono ?_; rintro e w1 ⟨rfl, hb1⟩; replace hB0 := below_then hB0 hb1; clear hb1)
    all_goals
      go_ret
      exact ⟨rfl, hB0⟩
  · by_cases h2 : 500 < b.length
    · have hB0 := Below.refl w.heap.size w
      clear hA hB ha hb
      go_enter Try.func3, Try.ntmps3
      go_wp2_with (go_at_call 9; refine (first_any _).mono ?_; rintro e w1 ⟨rfl, hb1⟩; replace hB0 := below_then hB0 hb1; clear hb1)
      all_goals
        go_ret
        exact ⟨rfl, hB0⟩
    · have sx := joinF_size width a
      have sy := joinF_size width b
      refine parts_main width A B a b ca cb w (joinF width a).1 (joinF width b).1 (joinF width (a ++ b)).1 (joinF width a).2 (joinF width b).2 (joinF width (a ++ b)).2 hA hB ha hb (by omega) (by omega) (by omega) (by omega) rfl rfl rfl ?_
      rcases joinF_err width a with ea | ea <;> rcases joinF_err width b with eb | eb
      · exact .inl ⟨ea, eb, by rw [joinF_append_ok ea eb], by rw [joinF_append_ok ea eb]⟩
      · exact .inr (.inl ⟨ea, eb, joinF_append_bad (by omega)⟩)
      · exact .inr (.inr (.inl ⟨ea, eb, joinF_append_bad (by omega)⟩))
      · exact .inr (.inr (.inr ⟨ea, eb, joinF_append_bad (by omega)⟩))
end Go.Proofs.Ytpgnddopnblflaa
