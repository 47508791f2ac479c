/- Two readers side by side. -/
import Derived.Test.YtkcffggjggedjaaFrFeedC
namespace Go.Proofs.Ytkcffggjggedjaa
open Go.RowKit

structure Two (w : World) (g g2 : Nat) (most h : Int) (ov : Bool) (b : List Int) (v1 v2 : Value) (wr : World) : Prop where
  ra : RdA wr g most h v1 ov
  rb : RdB wr g2 most h v2 ov
  oa : OwnB wr w.heap.size v1 b
  ob : OwnB wr w.heap.size v2 b
  ap : Apart v1 v2
  byt : Byt b
  len : (b.length : Int) ≤ h
  bel : Below w.heap.size w wr
variable {w : World} {g g2 : Nat} {most h : Int} {ov : Bool} {b : List Int} {v1 v2 : Value} {wr : World}
theorem Two.ga (t : Two w g g2 most h ov b v1 v2 wr) : g < wr.heap.size := (Array.getElem?_eq_some_iff.1 t.ra).1
theorem Two.gb (t : Two w g g2 most h ov b v1 v2 wr) : g2 < wr.heap.size := (Array.getElem?_eq_some_iff.1 t.rb).1
theorem Two.ne (t : Two w g g2 most h ov b v1 v2 wr) : g ≠ g2 := fun e => by
  have h1 := t.ra; have h2 := t.rb
  subst e
  unfold RdA at h1; unfold RdB at h2
  rw [h1] at h2
  simp at h2
theorem Two.below {w1 : World} (t : Two w g g2 most h ov b v1 v2 wr) (k : Below wr.heap.size wr w1) : Two w g g2 most h ov b v1 v2 w1 :=
  ⟨blk_below t.ra k, blk_below t.rb k, own_below t.oa k, own_below t.ob k, t.ap, t.byt, t.len, below_then t.bel k⟩
theorem Two.tchA (t : Two w g g2 most h ov b v1 v2 wr) (hg : w.heap.size ≤ g) {w3 : World} (k : Tch g v1.ownBlock wr w3) : Below w.heap.size w w3 :=
  t.bel.trans (k.toBelow t.bel.size hg (fun n hn => (World.ownsRow.lt t.oa n hn).1))
/-- Behind the first reader's call the second stands as it stood. -/
theorem Two.second (t : Two w g g2 most h ov b v1 v2 wr) {w3 : World} (k : Tch g v1.ownBlock wr w3) : RdB w3 g2 most h v2 ov ∧ OwnB w3 w.heap.size v2 b :=
  ⟨(k.block g2 t.gb t.ne.symm (fun e => own_ne t.oa t.rb (by decide) e.symm)).trans t.rb,
   k.grownBut t.ob (own_ne t.ob t.ra (by decide)) (by
    by_cases hn : v2.ownBlock = none
    · exact .inl hn
    · refine .inr (fun e => ?_)
      obtain ⟨n, hk⟩ := Option.ne_none_iff_exists'.1 hn
      exact t.ap n (by rw [← e, hk]) hk)⟩
/-- Behind both calls. -/
theorem Two.both (t : Two w g g2 most h ov b v1 v2 wr) (hg2 : w.heap.size ≤ g2) (hg : w.heap.size ≤ g) {w3 w4 : World} (k : Tch g v1.ownBlock wr w3) (k2 : Tch g2 v2.ownBlock w3 w4) {h' : Int} {ov' : Bool} {b' : List Int} {u1 u2 vo : Value} {mid mid2 : Nat} {out : List (List Int)}
    (ra : RdA w3 g most h' u1 ov') (hm : wr.heap.size ≤ mid) (hm' : mid ≤ w3.heap.size) (oa : OwnB w3 mid u1 b') (om : OwnM w3 wr.heap.size mid vo out)
    (rb : RdB w4 g2 most h' u2 ov') (hm2 : w3.heap.size ≤ mid2) (ob : OwnB w4 mid2 u2 b') (hy : Byt b') (hl : (b'.length : Int) ≤ h') :
    Two w g g2 most h' ov' b' u1 u2 w4 ∧ OwnM w4 wr.heap.size mid vo out ∧ (∀ n, u1.ownBlock = some n → mid ≤ n) ∧ (∀ n, u2.ownBlock = some n → mid ≤ n) := by
  have hb := t.bel.size
  have h3 := t.second k
  have hne : g2 ≠ g := t.ne.symm
  have hv2 : ∀ n, v2.ownBlock = some n → n < wr.heap.size := fun n hn => (World.ownsRow.lt t.ob n hn).2
  have e1 : ∀ n, u1.ownBlock = some n → mid ≤ n ∧ n < w3.heap.size := World.ownsRow.lt oa
  have e2 : ∀ n, u2.ownBlock = some n → mid2 ≤ n ∧ n < w4.heap.size := World.ownsRow.lt ob
  have oa4 : OwnB w4 mid u1 b' := k2.grownBut oa (own_ne oa h3.1 (by decide)) (by
    by_cases hn : u1.ownBlock = none
    · exact .inl hn
    · refine .inr (fun e => ?_)
      obtain ⟨n, hk⟩ := Option.ne_none_iff_exists'.1 hn
      have h1 := (e1 n hk).1
      have h2 := hv2 n (by rw [← e, hk])
      omega)
  have ra4 : RdA w4 g most h' u1 ov' := (k2.block g (by have := t.ga; have := k.size; omega) t.ne (fun e => own_ne h3.2 ra (by decide) e.symm)).trans ra
  have bel3 : Below w.heap.size w w3 := t.tchA hg k
  refine ⟨⟨ra4, rb, World.ownsRow.mono oa4 (by omega), World.ownsRow.mono ob (by have := k.size; omega), fun n h1 h2 => ?_, hy, hl, bel3.trans (k2.toBelow bel3.size hg2 (fun n hn => (World.ownsRow.lt h3.2 n hn).1))⟩, om.tch k2 t.gb hv2, fun n hn => (e1 n hn).1, fun n hn => by have := (e2 n hn).1; omega⟩
  have i1 := (e1 n h1).2
  have i2 := (e2 n h2).1
  omega
/-- A byte written over in a row of neither. -/
theorem Two.store (t : Two w g g2 most h ov b v1 v2 wr) {u : Value} {b0 n : Nat} {xs : List Value} (hu : wr.ownsRow b0 5 1 u n xs) {ge mid : Nat} (he : u.ownBlock = some ge) (hm : ge < mid) (h1 : ∀ n, v1.ownBlock = some n → mid ≤ n) (h2 : ∀ n, v2.ownBlock = some n → mid ≤ n)
    (hw : w.heap.size ≤ ge) (j : Nat) (y : Value) : Two w g g2 most h ov b v1 v2 (wr.setCell ⟨ge, j, none⟩ y) := by
  have n1 : g ≠ ge := fun e => own_ne hu t.ra (by decide) (by rw [he, e])
  have n2 : g2 ≠ ge := fun e => own_ne hu t.rb (by decide) (by rw [he, e])
  refine ⟨blk_set_far t.ra (p := ⟨ge, j, none⟩) n1 y, blk_set_far t.rb (p := ⟨ge, j, none⟩) n2 y, t.oa.kept (grown_set wr ge j y) (.inr (fun e => ?_)), t.ob.kept (grown_set wr ge j y) (.inr (fun e => ?_)), t.ap, t.byt, t.len, t.bel.setCell hw y⟩
  · have := h1 ge e; omega
  · have := h2 ge e; omega
theorem OwnM.shape {w : World} {base mid : Nat} {v : Value} {ls : List (List Int)} (h : OwnM w base mid v ls) (hb : ∀ l ∈ ls, Byt l) : ∃ vs, vs.length = ls.length ∧ Shape base w v vs ∧ ∀ j, j < vs.length → ∀ k, (vs.getD j (.bool false)).ownBlock = some k → k < mid := by
  obtain ⟨vs, h1, h2, h3⟩ := h
  refine ⟨vs, h1, ⟨by rw [h1]; exact h2, fun j hj => ⟨ls.getD j [], hb _ ?_, (h3 j (by omega)).1⟩⟩, fun j hj => (h3 j (by omega)).2⟩
  rw [List.getD_eq_getElem?_getD, List.getElem?_eq_getElem (by omega)]
  exact List.getElem_mem _
end Go.Proofs.Ytkcffggjggedjaa
