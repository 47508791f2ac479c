/- What an argument's data tell of a slice of numbers. -/
import Derived.Test.YtkcffggjggedjaaRowsB
namespace Go.Proofs.Ytkcffggjggedjaa
open Go.ChangeShapes Go.WideShapes Go.ChangeAt Go.RowKit

section
variable {H : Type} {enc : TypeId × Value → H} {P : Program} {w : World} {spare : Nat → Bool} {held : Bool}
theorem row_ints {t e : TypeId} {fuel : Nat} {v : Value} {x : DataW H × List MemPlace} (ht : P.underlying t = some (.slice e)) (he : P.underlying e = some (.int .i64)) (hc : P.cellsOf e = 1) (h1 : P.bytesOf e = 8)
    (h : DataW.trod enc P w 0 spare held fuel t [v] = some x) (hf : Fits P t x.1) :
    ∃ (A : Option Addr) (l : List Int) (c : Nat), v = .slice A l.length c ∧ l.length ≤ c ∧ l.length ≤ 140737488351232 ∧ (∀ x ∈ l, -9223372036854775808 ≤ x ∧ x ≤ 9223372036854775807) ∧ Ints .i64 w A l := by
  rcases open_ints ht he hc h with ⟨hcs, _⟩ | ⟨a, len, cap, zs, hcs, _, hl, hm, hz, rfl, hcell, hwz⟩
  · simp at hcs
    subst hcs
    exact ⟨none, [], 0, rfl, Nat.le_refl _, Nat.zero_le _, fun x hx => by simp at hx, Ints.nil _ _ _⟩
  · simp at hcs
    subst hcs
    have hlz : len ≤ zs.length := by rw [hz]; split <;> omega
    have hlen : (zs.take len).length = len := by rw [List.length_take]; omega
    have hfl := hf.len ht
    rw [h1] at hfl
    refine ⟨some a, zs.take len, cap, by rw [hlen], by rw [hlen]; exact hl, ?_, fun x hx => ?_, fun hn => ?_⟩
    · rw [hlen]
      simp [lits, reachBytes] at hfl
      omega
    · exact bounds_i64 (hwz x (List.mem_of_mem_take hx))
    · have hp : 0 < len := by rw [← hlen]; exact List.length_pos_iff.2 hn
      obtain ⟨b, off, rfl⟩ := spot_none (hcell 0 (by omega))
      refine ⟨b, off, rfl, fun j hj => ?_⟩
      rw [hlen] at hj
      have h2 := hcell j (by omega)
      rw [Addr.add_lit] at h2
      rw [h2]
      simp [List.getD_eq_getElem?_getD, hj]
end
end Go.Proofs.Ytkcffggjggedjaa
