/- few, Bytes, CopyBytes, Clone, All: what the calls come to. -/
import Derived.Test.YtkodmicocjklcaaShFr
import Derived.Deep.QuietTactic
import Derived.BigQuiet
import Derived.WalkSpells
namespace Go.Proofs.Ytkodmicocjklcaa
open Go.RowKit

theorem isNone_eq (A : Option Addr) (h : A.isNone = false) : ∃ a, A = some a := by
  cases A with
  | none => simp at h
  | some a => exact ⟨a, rfl⟩

/-! ### few -/
def fewLoop : Int → List (List Int) → Bool
  | _, [] => true
  | n, b :: r => if 3000 < n + (if 3001 < (b.length : Int) then 3001 else (b.length : Int)) then false else fewLoop (n + (if 3001 < (b.length : Int) then 3001 else (b.length : Int))) r
def fewF (ls : List (List Int)) : Bool := fewLoop 0 (ls.take 50) && decide (ls.length ≤ 50)

set_option maxHeartbeats 400000 in
theorem few_any (A : Option Addr) (ls : List (List Int)) (c : Nat) (w : World) (hl : ls.length ≤ maxLen) (hA : Rows w A ls) (hm : ∀ l ∈ ls, l.length ≤ maxLen) :
    Calls Try.prog 7 #[.slice A ls.length c] w fun e w' => e = .returned (.bool (fewF ls)) ∧ w = w' := by
  have HF := Lib.hid (show fewF ls = (fewLoop 0 (ls.take 50) && decide (ls.length ≤ 50)) from rfl)
  have HA := Lib.hid hA
  have HM := Lib.hid hm
  unfold maxLen at hl
  clear hA hm
  go_enter Try.func7, Try.ntmps7
  go_wp2
  go_loop [3, 4] (fun vn vi => ∃ (k : Nat) (n : Int), k ≤ ls.length ∧ k ≤ 50 ∧ 0 ≤ n ∧ n ≤ 3000 ∧ vi = .int .i64 k ∧ vn = .int .i64 n ∧ Hid (fewLoop n ((ls.take 50).drop k) = fewLoop 0 (ls.take 50))) (fun _ vi => 50 - (intOf vi).toNat)
  case atStart => exact ⟨0, 0, by omega, by omega, by omega, by omega, rfl, rfl, rfl⟩
  case round =>
    obtain ⟨k, n, hk, hk1, h0, h1, rfl, rfl, hr⟩ := hrel
    by_cases hlt : k < ls.length
    · by_cases h50 : k < 50
      · obtain ⟨b, off, A', c', rfl, hc, _, _⟩ := HA.out.look hlt
        have HD := Lib.hid (show (ls.take 50).drop k = ls.getD k [] :: (ls.take 50).drop (k + 1) by
          rw [drop_get [] (ls.take 50) (by simp; omega)]; simp [List.getD_eq_getElem?_getD, h50])
        have hb : (ls.getD k []).length ≤ maxLen := HM.out _ (by rw [List.getD_eq_getElem?_getD, List.getElem?_eq_getElem hlt]; exact List.getElem_mem hlt)
        unfold maxLen at hb
        generalize ls.getD k [] = x at hc HD hb
        by_cases hbig : 3000 < n + (if 3001 < (x.length : Int) then 3001 else (x.length : Int))
        · go_wp2
          all_goals
            go_ret
            exact ⟨by rw [HF.out, ← hr.out, HD.out, fewLoop, if_pos hbig]; rfl, rfl⟩
        · go_wp2
          go_round
          case rel => exact ⟨k + 1, _, by omega, by omega, by omega, by omega, by go_num, rfl, Lib.hid (by rw [← hr.out, HD.out, fewLoop, if_neg hbig])⟩
          case measure => simp [intOf]; omega
      · obtain rfl : k = 50 := by omega
        go_wp2
        go_ret
        exact ⟨by rw [HF.out, ← hr.out, List.drop_eq_nil_of_le (by simp; omega)]; simp [fewLoop]; omega, rfl⟩
    · obtain rfl : k = ls.length := by omega
      go_wp2
      go_ret
      exact ⟨by rw [HF.out, ← hr.out, List.drop_eq_nil_of_le (by simp; omega)]; simp [fewLoop]; omega, rfl⟩

/-! ### Bytes, Lists -/
set_option maxHeartbeats 400000 in
theorem bytes_same (A B : Option Addr) (x : List Int) (c d : Nat) (w : World) (hx : Ints .u8 w A x) (hy : Ints .u8 w B x) :
    Calls Try.prog 10 #[.slice A x.length c, .slice B x.length d] w fun e w' => e = .returned (.bool true) ∧ w = w' := by
  have h1 := bv_str (P := Try.prog) (c := c) Try.underlying25 Try.underlying5 Try.underlying9 hx
  have h2 := bv_str (P := Try.prog) (c := d) Try.underlying25 Try.underlying5 Try.underlying9 hy
  go_enter Try.func10, Try.ntmps10
  go_wp2
  go_ret
  refine ⟨?_, rfl⟩
  simp

/-! ### copies -/
set_option maxHeartbeats 400000 in
theorem copy_any (A : Option Addr) (x : List Int) (c : Nat) (w : World) (hx : Ints .u8 w A x) (hl : x.length ≤ 1073741824) :
    Calls Try.prog 20 #[.slice A x.length c] w fun e w' => ∃ v, e = .returned v ∧ OwnB w' w.heap.size v x ∧ Below w.heap.size w w' := by
  obtain ⟨i0, hi, hz0, hz1, hz2⟩ := info_parts (show (Try.prog.info? 5).map (fun i => (i.zero, i.size, i.bytes)) = some (some (.int .u8 0), 1, 1) by kernel_rfl)
  have HX := Lib.hid hx
  clear hx
  go_enter Try.func20, Try.ntmps20
  go_wp2_with (at_builtin; refine wp_append_src (w0 := w) w.heap.size 1 1 (.tmp 3) (.tmp 4) 25 25 5 rfl rfl Try.underlying25 hi hz0 hz1 hz2 rfl (by decide) (n := 0) (xs := ints .u8 []) (World.ownsRow_lit w #[] 0 (Nat.le_refl _) (Nat.zero_le _) rfl) rfl ((HX.out.below ((Below.refl _ w).alloc (Nat.le_refl _) _)).src Try.underlying25 c) rfl (by simp [maxLen]; omega) (by simp; omega) ((Below.refl _ w).alloc (Nat.le_refl _) _) (by simp) (Nat.le_refl _) ?_; intro v1 w1 ho1 hb1 _ _)
  go_ret
  exact ⟨_, rfl, by simpa [OwnB, ints] using ho1, hb1⟩

set_option maxHeartbeats 400000 in
theorem clone_any (A : Option Addr) (x : List Int) (c : Nat) (w : World) (hx : Ints .u8 w A x) (hl : x.length ≤ 1073741824) :
    Calls Try.prog 24 #[.slice A x.length c] w fun e w' => ∃ v, e = .returned v ∧ OwnB w' w.heap.size v x ∧ Below w.heap.size w w' := by
  obtain ⟨i0, hi, hz0, hz1, hz2⟩ := info_parts (show (Try.prog.info? 5).map (fun i => (i.zero, i.size, i.bytes)) = some (some (.int .u8 0), 1, 1) by kernel_rfl)
  have hnl := fun (A : Option Addr) (n : Nat) => Lib.run_eql_slice_nil (P := Try.prog) w 25 5 A n c 0 0 Try.underlying25
  by_cases hA : A = none
  · subst hA
    have h0 : x = [] := by
      rcases x with _ | ⟨a, x⟩
      · rfl
      · obtain ⟨_, _, h, _⟩ := hx (by simp); simp at h
    subst h0
    go_enter Try.func24, Try.ntmps24
    go_wp2
    go_ret
    exact ⟨_, rfl, World.ownsRow_nil _ _ _ _, Below.refl _ _⟩
  · obtain ⟨a, rfl⟩ := Option.ne_none_iff_exists'.1 hA
    have HX := Lib.hid hx
    clear hx hA
    go_enter Try.func24, Try.ntmps24
    go_wp2_with (at_builtin; refine wp_append_src (w0 := w) w.heap.size 1 1 (.tmp 5) (.tmp 6) 25 25 5 rfl rfl Try.underlying25 hi hz0 hz1 hz2 rfl (by decide) (n := 0) (xs := ints .u8 []) (World.ownsRow_lit w #[] 0 (Nat.le_refl _) (Nat.zero_le _) rfl) rfl ((HX.out.below ((Below.refl _ w).alloc (Nat.le_refl _) _)).src Try.underlying25 c) rfl (by simp [maxLen]; omega) (by simp; omega) ((Below.refl _ w).alloc (Nat.le_refl _) _) (by simp) (Nat.le_refl _) ?_; intro v1 w1 ho1 hb1 _ _)
    go_ret
    exact ⟨_, rfl, by simpa [OwnB, ints] using ho1, hb1⟩
end Go.Proofs.Ytkodmicocjklcaa
