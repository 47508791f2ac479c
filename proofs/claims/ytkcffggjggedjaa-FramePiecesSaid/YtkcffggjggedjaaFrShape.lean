/- Own rows whose bytes are written over. -/
import Derived.Test.YtkcffggjggedjaaFrFirst
import Derived.Laws.OwnMore
namespace Go.Proofs.Ytkcffggjggedjaa
open Go.RowKit

theorem takeR_byt : ∀ (n : Nat) (xs : List Int), xs.length ≤ n → Byt xs → ∀ l ∈ (takeR xs).1, Byt l
  | n, [], _, _ => by rw [takeR]; intro l hl; simp at hl
  | n, [a], _, _ => by rw [takeR]; intro l hl; simp at hl
  | 0, a :: b :: r, h, _ => by simp at h
  | n + 1, a :: b :: r, h, hb => by
    have hr : Byt r := fun x hx => hb x (by simp [hx])
    by_cases hn : 256 * a.toNat + b.toNat ≤ r.length
    · rw [takeR, if_pos hn]
      intro l hl
      rcases List.mem_cons.1 hl with rfl | hl
      · exact fun x hx => hr x (List.mem_of_mem_take hx)
      · exact takeR_byt n _ (by simp at h ⊢; omega) (fun x hx => hr x (List.mem_of_mem_drop hx)) l hl
    · rw [takeR, if_neg hn]; intro l hl; simp at hl

/-- A row of own rows of bytes, whatever bytes. -/
def Shape (base : Nat) (w : World) (v : Value) (vs : List Value) : Prop :=
  w.ownsRow base 23 1 v vs.length vs ∧ ∀ j, j < vs.length → ∃ l, Byt l ∧ OwnB w base (vs.getD j (.bool false)) l
theorem OwnE.below {w w1 : World} {base : Nat} {v : Value} {ls : List (List Int)} (h : OwnE w base v ls) (hb : Below w.heap.size w w1) : OwnE w1 base v ls := by
  obtain ⟨vs, h1, h2, h3⟩ := h
  exact ⟨vs, h1, own_below h2 hb, fun j hj => own_below (h3 j hj) hb⟩
theorem OwnE.shape {w : World} {base : Nat} {v : Value} {ls : List (List Int)} (h : OwnE w base v ls) (hb : ∀ l ∈ ls, Byt l) : ∃ vs, vs.length = ls.length ∧ Shape base w v vs := by
  obtain ⟨vs, h1, h2, h3⟩ := h
  refine ⟨vs, h1, by rw [h1]; exact h2, fun j hj => ⟨ls.getD j [], hb _ ?_, h3 j (by omega)⟩⟩
  rw [List.getD_eq_getElem?_getD, List.getElem?_eq_getElem (by omega)]
  exact List.getElem_mem _
theorem Shape.below {base : Nat} {w w1 : World} {v : Value} {vs : List Value} (h : Shape base w v vs) (hb : Below w.heap.size w w1) : Shape base w1 v vs :=
  ⟨own_below h.1 hb, fun j hj => let ⟨l, h1, h2⟩ := h.2 j hj; ⟨l, h1, own_below h2 hb⟩⟩
theorem Shape.cell {base : Nat} {w : World} {v : Value} {vs : List Value} (h : Shape base w v vs) {j : Nat} (hj : j < vs.length) :
    ∃ g c, v = .slice (some ⟨g, 0, none⟩) vs.length c ∧ w.cell? ⟨g, j, none⟩ = some (vs.getD j (.bool false)) := by
  rcases h.1.2 with ⟨rfl, hn⟩ | ⟨g, cap, cur, rfl, _⟩
  · omega
  · refine ⟨g, cap, rfl, ?_⟩
    have hc := h.1.cells (g := g) rfl j (vs.getD j (.bool false)) (by simp [List.getD_eq_getElem?_getD, hj])
    simpa [Addr.add_lit] using hc
/-- An element, as a slice. -/
theorem Shape.elem {base : Nat} {w : World} {v : Value} {vs : List Value} (h : Shape base w v vs) {j : Nat} (hj : j < vs.length) :
    ∃ A n c, vs.getD j (.bool false) = .slice A n c ∧ (n : Int) ≤ 9223372036854775807 := by
  obtain ⟨l, _, h2⟩ := h.2 j hj
  rcases h2.2 with ⟨hv, hn⟩ | ⟨g, cap, cur, hv, _, _, hc, hm, _⟩
  · exact ⟨_, _, _, hv, by omega⟩
  · exact ⟨_, _, _, hv, by unfold maxLen at hm; omega⟩
theorem Shape.byte {base : Nat} {w : World} {v : Value} {vs : List Value} (h : Shape base w v vs) {j : Nat} (hj : j < vs.length) {A : Option Addr} {n c k : Nat} (he : vs.getD j (.bool false) = .slice A n c) (hk : k < n) :
    ∃ g x, A = some ⟨g, 0, none⟩ ∧ base ≤ g ∧ w.cell? ⟨g, k, none⟩ = some (.int .u8 x) ∧ 0 ≤ x ∧ x ≤ 255 ∧ w.frozen? ⟨g, k, none⟩ = false ∧ ∀ y, 0 ≤ y → y ≤ 255 → Shape base (w.setCell ⟨g, k, none⟩ (.int .u8 y)) v vs := by
  obtain ⟨l, hy, ho⟩ := h.2 j hj
  have hl := ho.1
  rcases ho.2 with ⟨hv, hn⟩ | ⟨g, cap, cur, hv, hb, hg, _, _, _, _⟩
  · rw [he] at hv; simp at hv; omega
  · rw [he] at hv
    simp only [Value.slice.injEq] at hv
    obtain ⟨rfl, rfl, rfl⟩ := hv
    unfold OwnB at ho
    rw [he] at ho
    have hc := ho.cellAt k (by omega)
    have hx := hy.get k
    refine ⟨g, l.getD k 0, rfl, hb, ?_, hx.1, hx.2, ho.frozenAt k, fun y h0 h1 => ?_⟩
    · rw [hc]; simp [ints, List.getD_eq_getElem?_getD, hk]
    · have hgr : w.grownBy (w.setCell ⟨g, k, none⟩ (.int .u8 y)) (some g) := (ho.stored k (.int .u8 y)).2
      refine ⟨h.1.kept hgr ?_, fun i hi => ?_⟩
      · have := own_apart h.1 ho (by decide)
        simpa [Value.ownBlock] using this
      · obtain ⟨l', hy', ho'⟩ := h.2 i hi
        by_cases hsame : (vs.getD i (.bool false)).ownBlock = some g
        · rcases ho'.2 with ⟨hv', _⟩ | ⟨g', cap', cur', hv', _⟩
          · rw [hv'] at hsame; simp [Value.ownBlock] at hsame
          · rw [hv'] at hsame
            have : g' = g := by simpa [Value.ownBlock] using hsame
            subst this
            unfold OwnB at ho'
            rw [hv'] at ho' ⊢
            refine ⟨l'.set k y, fun x hx => ?_, ?_⟩
            · rcases List.mem_or_eq_of_mem_set hx with hx | rfl
              · exact hy' x hx
              · exact ⟨h0, h1⟩
            · have h2 := (ho'.stored k (.int .u8 y)).1
              unfold OwnB
              simpa [ints, List.map_set] using h2
        · exact ⟨l', hy', ho'.kept hgr (.inr hsame)⟩
end Go.Proofs.Ytkcffggjggedjaa
