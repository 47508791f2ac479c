/- What an argument's data tell of lists of lists of slices of bytes. -/
import Derived.Test.YtkcffggjggedjaaRowsB
import Derived.Test.YtkcffggjggedjaaFrFeeds
namespace Go.Proofs.Ytkcffggjggedjaa
open Go.ChangeShapes Go.WideShapes Go.ChangeAt Go.RowKit

section
variable {H : Type} {enc : TypeId × Value → H} {P : Program} {w : World} {spare : Nat → Bool} {held : Bool}
theorem row_lists2 {t e e2 u : TypeId} {fuel : Nat} {v : Value} {x : DataW H × List MemPlace} (ht : P.underlying t = some (.slice e)) (he : P.underlying e = some (.slice e2)) (he2 : P.underlying e2 = some (.slice u)) (hu : P.underlying u = some (.int .u8))
    (hce : P.cellsOf e = 1) (hce2 : P.cellsOf e2 = 1) (hc : P.cellsOf u = 1) (h1 : P.bytesOf u = 1) (h24 : P.bytesOf e2 = 24) (h25 : P.bytesOf e = 24) (h : DataW.trod enc P w 0 spare held fuel t [v] = some x) (hf : Fits P t x.1) :
    ∃ (A : Option Addr) (lss : List (List (List Int))) (c : Nat), v = .slice A lss.length c ∧ lss.length ≤ c ∧ lss.length ≤ 140737488351232 ∧ (∀ ls ∈ lss, ls.length ≤ 140737488351232 ∧ Wide ls) ∧ Rows2 w A lss := by
  rcases Go.Deep.open_slice1 ht hce h with ⟨hcs, _⟩ | ⟨a, len, cap, m, n, V, D, Pl, hcs, _, hl, hm, hmm, rfl, hx⟩
  · simp at hcs
    subst hcs
    exact ⟨none, [], 0, rfl, Nat.le_refl _, Nat.zero_le _, fun x hx => by simp at hx, fun h => absurd rfl h⟩
  · simp at hcs
    subst hcs
    have hlm : len ≤ m := by rw [hmm]; split <;> omega
    obtain ⟨L, hL⟩ := Go.Deep.choose_lt (n := len) (p := fun j (l : List (List Int)) => ∃ A c, V j = .slice A l.length c ∧ l.length ≤ c ∧ l.length ≤ 140737488351232 ∧ Wide l ∧ Rows w A l) (fun j hj => by
      obtain ⟨A, l, c, h2⟩ := row_lists he he2 hu hce2 hc h1 h24 (hx j (by omega)).2 (hf.elem ht (List.mem_map.2 ⟨j, List.mem_range.2 hj, rfl⟩))
      exact ⟨l, A, c, h2⟩)
    have hg : ∀ j, j < len → ((List.range len).map L).getD j [] = L j := fun j hj => by simp [List.getD_eq_getElem?_getD, hj]
    have hfl := hf.len ht
    rw [h25] at hfl
    refine ⟨some a, (List.range len).map L, cap, by simp, by simpa using hl, ?_, fun l hl' => ?_, fun hn => ?_⟩
    · simp [reachBytes] at hfl ⊢
      omega
    · simp only [List.mem_map, List.mem_range] at hl'
      obtain ⟨j, hj, rfl⟩ := hl'
      obtain ⟨_, _, _, _, h3, h4, _⟩ := hL j hj
      exact ⟨h3, h4⟩
    · have hp : 0 < len := by
        rcases Nat.eq_zero_or_pos len with h | h
        · subst h; simp at hn
        · exact h
      obtain ⟨b, off, rfl⟩ := spot_none (hx 0 (by omega)).1
      refine ⟨b, off, rfl, fun j hj => ?_⟩
      have hj' : j < len := by simpa using hj
      have h2 := (hx j (by omega)).1
      rw [Addr.add_lit] at h2
      obtain ⟨A, c, h3, _, _, _, h5⟩ := hL j hj'
      exact ⟨A, c, by rw [hg j hj', h2, h3], by rw [hg j hj']; exact h5⟩
end
end Go.Proofs.Ytkcffggjggedjaa
