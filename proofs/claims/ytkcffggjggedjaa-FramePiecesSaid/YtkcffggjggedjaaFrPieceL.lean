/- What FramePieces keeps beside a reader: a list of own rows that grows, bytes that are cut. -/
import Derived.Test.YtkcffggjggedjaaFrTwo
import Derived.Test.YtkcffggjggedjaaFrJoins
namespace Go.Proofs.Ytkcffggjggedjaa
open Go.RowKit

theorem own_src {P : Program} {w : World} {base n : Nat} {e : TypeId} {v : Value} {vs : List Value} (h : w.ownsRow base e 1 v n vs) {tx e' : TypeId} (hk : P.underlying tx = some (.slice e')) (h1 : ∀ u ∈ vs, u.oneCell' = true) : Src P 1 tx v n vs w := by
  have hl : vs.length = n := by have := h.1; simpa using this
  rcases h.2 with ⟨rfl, hn⟩ | ⟨g, cap, cur, rfl, _⟩
  · obtain rfl : vs = [] := List.eq_nil_of_length_eq_zero (by omega)
    rw [hn]
    exact Src.ofNil w hk 0
  · refine Src.ofSlice w hk ⟨g, 0, none⟩ n cap vs (by omega) (fun j u hu => ?_) h1
    have := h.cells (g := g) rfl j u hu
    exact this
theorem OwnM.src {P : Program} {w : World} {base mid : Nat} {v : Value} {ls : List (List Int)} (h : OwnM w base mid v ls) {tx e' : TypeId} (hk : P.underlying tx = some (.slice e')) :
    ∃ vs : List Value, Src P 1 tx v ls.length vs w ∧ vs.length = ls.length ∧ ∀ j, j < ls.length → OwnB w base (vs.getD j (.bool false)) (ls.getD j []) ∧ ∀ k, (vs.getD j (.bool false)).ownBlock = some k → k < mid := by
  obtain ⟨vs, h1, h2, h3⟩ := h
  refine ⟨vs, own_src h2 hk (fun u hu => ?_), h1, h3⟩
  obtain ⟨j, hj, rfl⟩ := List.mem_iff_getElem.1 hu
  have := (h3 j (by omega)).1.one
  rwa [List.getD_eq_getElem?_getD, List.getElem?_eq_getElem hj] at this
/-- A list of own rows, and another one's rows behind it. -/
theorem OwnM.append {w w1 : World} {base mid : Nat} {v v1 : Value} {ls ms : List (List Int)} {vs news : List Value} (hl : vs.length = ls.length) (ho : w.ownsRow base 23 1 v ls.length vs) (h3 : ∀ j, j < ls.length → OwnB w base (vs.getD j (.bool false)) (ls.getD j []) ∧ ∀ k, (vs.getD j (.bool false)).ownBlock = some k → k < mid)
    (hn : news.length = ms.length) (hm : ∀ j, j < ms.length → OwnB w base (news.getD j (.bool false)) (ms.getD j []) ∧ ∀ k, (news.getD j (.bool false)).ownBlock = some k → k < mid) (hg : w.grownBy w1 v.ownBlock) (hr : w1.ownsRow base 23 1 v1 (ls.length + ms.length) (vs ++ news)) : OwnM w1 base mid v1 (ls ++ ms) := by
  refine ⟨vs ++ news, by simp [hl, hn], by simpa using hr, fun j hj => ?_⟩
  by_cases hlt : j < ls.length
  · have e1 : (vs ++ news).getD j (.bool false) = vs.getD j (.bool false) := by simp [List.getD_eq_getElem?_getD, List.getElem?_append, show j < vs.length by omega]
    have e2 : (ls ++ ms).getD j [] = ls.getD j [] := by simp [List.getD_eq_getElem?_getD, List.getElem?_append, hlt]
    rw [e1, e2]
    exact ⟨(h3 j hlt).1.kept hg (own_apart (h3 j hlt).1 ho (by decide)), (h3 j hlt).2⟩
  · have hj' : j - ls.length < ms.length := by simp at hj; omega
    have e1 : (vs ++ news).getD j (.bool false) = news.getD (j - ls.length) (.bool false) := by simp [List.getD_eq_getElem?_getD, List.getElem?_append, hl, if_neg hlt]
    have e2 : (ls ++ ms).getD j [] = ms.getD (j - ls.length) [] := by simp [List.getD_eq_getElem?_getD, List.getElem?_append, hlt]
    rw [e1, e2]
    exact ⟨(hm _ hj').1.kept hg (own_apart (hm _ hj').1 ho (by decide)), (hm _ hj').2⟩
/-- A list of own rows beside a reader whose row lies above them. -/
theorem OwnM.beside {g : Nat} {vr : Value} {w w' : World} (h : Tch g vr.ownBlock w w') {b0 n0 : Nat} {x0 : List Value} (hvr : w.ownsRow b0 5 1 vr n0 x0) {base mid : Nat} {v : Value} {ls : List (List Int)} (ho : OwnM w base mid v ls) (hg : g < base) (hv : ∀ k, vr.ownBlock = some k → mid ≤ k) : OwnM w' base mid v ls := by
  obtain ⟨vs, h1, h2, h3⟩ := ho
  refine ⟨vs, h1, h.grownBut h2 (fun e => by have := (World.ownsRow.lt h2 g e).1; omega) (own_apart h2 hvr (by decide)), fun j hj => ⟨h.grownBut (h3 j hj).1 (fun e => by have := (World.ownsRow.lt (h3 j hj).1 g e).1; omega) ?_, (h3 j hj).2⟩⟩
  by_cases hn : (vs.getD j (.bool false)).ownBlock = none
  · exact .inl hn
  · refine .inr (fun e => ?_)
    obtain ⟨k, hk⟩ := Option.ne_none_iff_exists'.1 hn
    have e1 := (h3 j hj).2 k hk
    have e2 := hv k (by rw [← e, hk])
    omega
theorem OwnM.more {w : World} {base base' mid mid' : Nat} {v : Value} {ls : List (List Int)} (h : OwnM w base mid v ls) (hb : base' ≤ base) (hm : mid ≤ mid') : OwnM w base' mid' v ls := by
  obtain ⟨vs, h1, h2, h3⟩ := h
  exact ⟨vs, h1, World.ownsRow.mono h2 hb, fun j hj => ⟨World.ownsRow.mono (h3 j hj).1 hb, fun k hk => Nat.lt_of_lt_of_le ((h3 j hj).2 k hk) hm⟩⟩
theorem run_cut {P : Program} (w : World) {t e : TypeId} (ht : P.underlying t = some (.slice e)) (hs : ∀ w, (sizeOf e).run P w = .ok 1 w) (A : Option Addr) (len cap lo hi : Nat) (h1 : lo ≤ hi) (h2 : hi ≤ cap) :
    (Instr.sliceAt t (.slice A len cap) (some (.int .i64 (lo : Int))) (some (.int .i64 (hi : Int))) none).run P w = .ok (.slice (if cap = lo then A else A.map (·.add lo)) (hi - lo) (cap - lo)) w := by
  have he : P.elem t = e := by simp [Program.elem, ht]
  have ht' : P.underlying t = some (.slice (P.elem t)) := by rw [he]; exact ht
  rw [run_sliceAt_slice w t _ _ _ _ ht', run_slice_lh w t A len cap ht' .i64 .i64 lo hi (by omega) (by omega) (by omega), he, hs]
  simp [Result.andThen, sliced]
end Go.Proofs.Ytkcffggjggedjaa
