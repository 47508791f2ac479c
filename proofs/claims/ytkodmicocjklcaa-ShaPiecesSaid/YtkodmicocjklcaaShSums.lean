/- rhzlaw8.ShaSums: what the call comes to. -/
import Derived.Test.YtkodmicocjklcaaShFirst
namespace Go.Proofs.Ytkodmicocjklcaa
open Go.RowKit

theorem fewLoop_tot : ∀ (ls : List (List Int)) (n : Int), 0 ≤ n → n ≤ 3000 → fewLoop n ls = true → n + tot ls ≤ 3000
  | [], n, _, h, _ => by simp [tot]; exact h
  | b :: r, n, h0, _, h => by
    rw [fewLoop] at h
    by_cases hn : 3000 < n + (if 3001 < (b.length : Int) then 3001 else (b.length : Int))
    · rw [if_pos hn] at h; cases h
    · rw [if_neg hn] at h
      have h2 := fewLoop_tot r _ (by split <;> omega) (by omega) h
      rw [tot_cons]
      by_cases hb : 3001 < (b.length : Int)
      · rw [if_pos hb] at hn; omega
      · rw [if_neg hb] at h2; omega
theorem fewF_tot {ls : List (List Int)} (h : fewF ls = true) : ls.length ≤ 50 ∧ tot ls ≤ 3000 := by
  unfold fewF at h
  simp only [Bool.and_eq_true, decide_eq_true_eq] at h
  have h2 := fewLoop_tot _ 0 (by omega) (by omega) h.1
  rw [List.take_of_length_le h.2] at h2
  exact ⟨h.2, by omega⟩

set_option maxHeartbeats 2000000 in
theorem sums_walk (A : Option Addr) (ls : List (List Int)) (c : Nat) (w : World) (hl : ls.length ≤ maxLen) (hm : ∀ l ∈ ls, l.length ≤ maxLen) (hy : ∀ l ∈ ls, Byt l) (hA : Rows w A ls) :
    Calls Try.prog 3 #[.slice A ls.length c] w fun e w' => e = .returned (.bool true) ∧ Below w.heap.size w w' := by
  have HA := Lib.hid hA
  have HM := Lib.hid hm
  have HY := Lib.hid hy
  have HL := Lib.hid hl
  clear hA hm hy hl
  rcases hfw : fewF ls with _ | _
  · have HFW := Lib.hid hfw
    have HQ := Lib.hid True.intro
    clear hfw
    go_enter Try.func3, Try.ntmps3
    go_wp2_with (first
      | (go_at_call 6; clear HQ; refine (first_any w).mono ?_; rintro e w1 ⟨rfl, hb1⟩; have HB1 := Lib.hid hb1; clear hb1)
      | (go_at_call 7; refine (few_any A ls c w1 HL.out (HA.out.below HB1.out) HM.out).mono ?_; rintro e w2 ⟨rfl, rfl⟩; rw [HFW.out])
      | (go_at_call 6; refine (first_any w1).mono ?_; rintro e w3 ⟨rfl, hb3⟩; have HB3 := Lib.hid (below_then HB1.out hb3); clear hb3))
    go_ret
    exact ⟨rfl, HB3.out⟩
  · have HT := Lib.hid (fewF_tot hfw)
    have HFW := Lib.hid hfw
    have HQ := Lib.hid True.intro
    have HQ2 := Lib.hid True.intro
    have HQ3 := Lib.hid True.intro
    obtain ⟨L, hLF⟩ : ∃ L, ls.flatten = L := ⟨_, rfl⟩
    have HLF := Lib.hid (And.intro hLF trivial)
    have HLL := Lib.hid (show L.length ≤ 3000 by rw [← hLF, flat_len]; exact HT.out.2)
    have HYL := Lib.hid (show Byt L by rw [← hLF]; exact byt_flat HY.out)
    clear hfw hLF
    go_enter Try.func3, Try.ntmps3
    go_wp2_with (first
      | (go_at_call 6; clear HQ; refine (first_any w).mono ?_; rintro e w1 ⟨rfl, hb1⟩; have HB1 := Lib.hid hb1; clear hb1)
      | (go_at_call 7; refine (few_any A ls c w1 HL.out (HA.out.below HB1.out) HM.out).mono ?_; rintro e w2 ⟨rfl, rfl⟩; rw [HFW.out])
      | (go_at_call 8; clear HQ2; refine (all_any A ls c w1 (by have := HT.out; omega) (by have := HT.out; omega) (HA.out.below HB1.out)).mono ?_; rintro e w3 ⟨v3, rfl, ho3, hb3⟩; rw [HLF.out.1] at ho3; obtain ⟨A3, c3, hv3, _, hi3⟩ := ho3.bv; subst hv3; have HI3 := Lib.hid hi3; have HB3 := Lib.hid (below_then HB1.out hb3); clear ho3 hb3 hi3)
      | (go_at_call 9; refine (sum_any A ls c w3 (by have := HT.out; omega) (by have := HT.out; omega) HY.out (HA.out.below HB3.out)).mono ?_; rintro e w4 ⟨v4, rfl, ho4, hb4⟩; rw [HLF.out.1] at ho4; obtain ⟨A4, c4, hv4, _, hi4⟩ := ho4.bv; subst hv4; have HI4 := Lib.hid hi4; have HI34 := Lib.hid (HI3.out.below hb4); have HB4 := Lib.hid (below_then HB3.out hb4); clear ho4 hb4 hi4)
      | (go_at_call 6; refine (first_any w4).mono ?_; rintro e w5 ⟨rfl, hb5⟩; have HI45 := Lib.hid (HI4.out.below hb5); have HI35 := Lib.hid (HI34.out.below hb5); have HB5 := Lib.hid (below_then HB4.out hb5); clear hb5)
      | (go_at_call 11; refine (refSum_any A3 L c3 w5 (by have := HLL.out; omega) HYL.out HI35.out).mono ?_; rw [ref_digest]; rintro e w6 ⟨v6, rfl, ho6, hb6⟩; obtain ⟨A6, c6, hv6, _, hi6⟩ := ho6.bv; subst hv6; have HI6 := Lib.hid hi6; have HI46 := Lib.hid (HI45.out.below hb6); have HI36 := Lib.hid (HI35.out.below hb6); have HB6 := Lib.hid (below_then HB5.out hb6); clear ho6 hb6 hi6)
      | (go_at_call 10; clear HQ3; refine (bytes_same A4 A6 (digest L) c4 c6 w6 HI46.out HI6.out).mono ?_; rintro e w7 ⟨rfl, rfl⟩)
      | (go_at_call 8; refine (all_any A ls c w6 (by have := HT.out; omega) (by have := HT.out; omega) (HA.out.below HB6.out)).mono ?_; rintro e w8 ⟨v8, rfl, ho8, hb8⟩; rw [HLF.out.1] at ho8; obtain ⟨A8, c8, hv8, _, hi8⟩ := ho8.bv; subst hv8; have HI8 := Lib.hid hi8; have HI38 := Lib.hid (HI36.out.below hb8); have HB8 := Lib.hid (below_then HB6.out hb8); clear ho8 hb8 hi8)
      | (go_at_call 10; refine (bytes_same A8 A3 L c8 c3 w8 HI8.out HI38.out).mono ?_; rintro e w9 ⟨rfl, rfl⟩))
    go_ret
    exact ⟨rfl, HB8.out⟩
end Go.Proofs.Ytkodmicocjklcaa
