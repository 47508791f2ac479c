/- Slices of bytes, lists of them: what a walk reads and what it makes. -/
import Derived.Test.YtkodmicocjklcaaShSt
import Derived.Deep.Slices
import Derived.Deep.Draws
namespace Go.Proofs.Ytkodmicocjklcaa
open Go.RowKit

/-- A slice of bytes that is read. -/
def BV (w : World) (v : Value) (l : List Int) : Prop := ∃ A c, v = .slice A l.length c ∧ l.length ≤ c ∧ Ints .u8 w A l
theorem BV.below {w w1 : World} {v : Value} {l : List Int} (h : BV w v l) (hb : Below w.heap.size w w1) : BV w1 v l := by
  obtain ⟨A, c, rfl, hc, hi⟩ := h
  exact ⟨A, c, rfl, hc, hi.below hb⟩
theorem Ints.cut {w : World} {A : Option Addr} {c lo hi : Nat} {l : List Int} (h : Ints .u8 w A l) (hc : l.length ≤ c) (h1 : lo ≤ hi) (h2 : hi ≤ l.length) :
    BV w (.slice (if c = lo then A else A.map (·.add lo)) (hi - lo) (c - lo)) ((l.drop lo).take (hi - lo)) := by
  have e : ((l.drop lo).take (hi - lo)).length = hi - lo := by simp; omega
  refine ⟨_, _, by rw [e], by rw [e]; omega, fun hn => ?_⟩
  have hp : 0 < hi - lo := by rw [← e]; exact List.length_pos_iff.2 hn
  obtain ⟨b, off, rfl, hx⟩ := h (by intro h; rw [h] at h2; simp at h2; omega)
  rw [if_neg (by omega)]
  refine ⟨b, off + lo, by simp [Addr.add_lit], fun j hj => ?_⟩
  rw [e] at hj
  rw [Nat.add_assoc, hx (lo + j) (by omega)]
  simp [List.getD_eq_getElem?_getD, hj]
/-- A list of slices of bytes that is read. -/
def Rows (w : World) (A : Option Addr) (ls : List (List Int)) : Prop :=
  ls ≠ [] → ∃ b off, A = some ⟨b, off, none⟩ ∧ ∀ j, j < ls.length → ∃ v, w.cell? ⟨b, off + j, none⟩ = some v ∧ BV w v (ls.getD j [])
theorem Rows.below {w w1 : World} {A : Option Addr} {ls : List (List Int)} (h : Rows w A ls) (hb : Below w.heap.size w w1) : Rows w1 A ls := fun hn => by
  obtain ⟨b, off, rfl, hc⟩ := h hn
  refine ⟨b, off, rfl, fun j hj => ?_⟩
  obtain ⟨v, h1, h2⟩ := hc j hj
  exact ⟨v, (hb.cell (World.block_lt_of_cell? w _ h1)).trans h1, h2.below hb⟩
theorem Rows.look {w : World} {A : Option Addr} {ls : List (List Int)} (h : Rows w A ls) {j : Nat} (hj : j < ls.length) :
    ∃ b off A' c, A = some ⟨b, off, none⟩ ∧ w.cell? ⟨b, off + j, none⟩ = some (.slice A' (ls.getD j []).length c) ∧ (ls.getD j []).length ≤ c ∧ Ints .u8 w A' (ls.getD j []) := by
  obtain ⟨b, off, rfl, hc⟩ := h (by intro h; rw [h] at hj; simp at hj)
  obtain ⟨v, h1, A', c, rfl, h2, h3⟩ := hc j hj
  exact ⟨b, off, A', c, rfl, h1, h2, h3⟩
theorem drop_get {α : Type} (d : α) (l : List α) {j : Nat} (h : j < l.length) : l.drop j = l.getD j d :: l.drop (j + 1) := by
  rw [List.drop_eq_getElem_cons h, List.getD_eq_getElem?_getD, List.getElem?_eq_getElem h]; rfl
section
variable {P : Program}
theorem Rows.src {w : World} {A : Option Addr} {ls : List (List Int)} (h : Rows w A ls) {tx e' : TypeId} (hk : P.underlying tx = some (.slice e')) (c : Nat) :
    ∃ vs : List Value, Src P 1 tx (.slice A ls.length c) ls.length vs w ∧ vs.length = ls.length ∧ ∀ j, j < ls.length → BV w (vs.getD j (.bool false)) (ls.getD j []) := by
  by_cases hn : ls = []
  · subst hn
    refine ⟨[], ?_, rfl, fun j hj => by simp at hj⟩
    rcases A with _ | a
    · exact Src.ofNil w hk c
    · exact Src.ofSlice w hk a 0 c [] rfl (fun j u hu => by simp at hu) (fun u hu => by simp at hu)
  · obtain ⟨b, off, rfl, hc⟩ := h hn
    obtain ⟨V, hV⟩ := Go.Deep.choose_lt (n := ls.length) (p := fun j v => w.cell? ⟨b, off + j, none⟩ = some v ∧ BV w v (ls.getD j [])) hc
    have hg : ∀ j, j < ls.length → (((List.range ls.length).map V).getD j (.bool false)) = V j := fun j hj => by simp [List.getD_eq_getElem?_getD, hj]
    refine ⟨(List.range ls.length).map V, Src.ofSlice w hk ⟨b, off, none⟩ ls.length c _ (by simp) (fun j u hu => ?_) (fun u hu => ?_), by simp, fun j hj => by rw [hg j hj]; exact (hV j hj).2⟩
    · have hj : j < ls.length := by
        rcases Nat.lt_or_ge j ls.length with h | h
        · exact h
        · simp [h] at hu
      rw [Addr.add_lit, (hV j hj).1]
      simp [hj] at hu
      rw [hu]
    · simp only [List.mem_map, List.mem_range] at hu
      obtain ⟨j, hj, rfl⟩ := hu
      obtain ⟨_, A', c', h2, _⟩ := hV j hj
      rw [h2]; rfl
theorem bv_str {w : World} {src dst e : TypeId} {A : Option Addr} {c : Nat} {l : List Int} (hs : P.underlying src = some (.slice e)) (he : P.underlying e = some (.int .u8)) (hd : P.underlying dst = some .string)
    (h : Ints .u8 w A l) : (convert src dst (.slice A l.length c)).run P w = .ok (.string (strOfNums l)) w := by
  by_cases hn : l = []
  · subst hn
    rcases A with _ | ⟨b, off, sp⟩
    · exact run_convert_bytes_nil w src e hs he 0 c dst hd
    · rcases sp with _ | sp
      · exact run_convert_bytes_arg w src e hs he b off 0 c [] rfl (fun i hi => by omega) dst hd
      · simp [convert, run_underlying hs, run_underlying hd, run_underlying he, Result.andThen, strOfNums, Conv.bytesToString, loadCells]; rfl
  · obtain ⟨b, off, rfl, hc⟩ := h hn
    exact run_convert_bytes_arg w src e hs he b off l.length c l rfl hc dst hd
end
/-- A row of bytes of the call's own. -/
def OwnB (w : World) (base : Nat) (v : Value) (l : List Int) : Prop := w.ownsRow base 5 1 v l.length (ints .u8 l)
theorem OwnB.bv {w : World} {base : Nat} {v : Value} {l : List Int} (h : OwnB w base v l) : BV w v l := by
  have hi := Ints.own h
  obtain ⟨A, c, hv, hx⟩ := hi
  refine ⟨A, c, hv, ?_, hx⟩
  rcases h.2 with ⟨rfl, h0⟩ | ⟨g, cap, cur, rfl, _, _, hc, _⟩
  · omega
  · simp only [Value.slice.injEq] at hv; omega
/-- A list of rows, the call's own, of slices that are read. -/
def OwnL (w : World) (base : Nat) (v : Value) (ls : List (List Int)) : Prop :=
  ∃ vs : List Value, vs.length = ls.length ∧ w.ownsRow base 25 1 v ls.length vs ∧ ∀ j, j < ls.length → BV w (vs.getD j (.bool false)) (ls.getD j [])
theorem OwnL.rows {w : World} {base : Nat} {v : Value} {ls : List (List Int)} (h : OwnL w base v ls) : ∃ A c, v = .slice A ls.length c ∧ ls.length ≤ c ∧ Rows w A ls := by
  obtain ⟨vs, hl, ho, hb⟩ := h
  rcases ho.2 with ⟨rfl, hn⟩ | ⟨g, cap, cur, rfl, _, _, hc, _⟩
  · rw [hn]
    exact ⟨none, 0, rfl, Nat.le_refl _, fun h => absurd (List.eq_nil_of_length_eq_zero hn) h⟩
  · refine ⟨_, cap, rfl, hc, fun _ => ⟨g, 0, rfl, fun j hj => ⟨vs.getD j (.bool false), ?_, hb j hj⟩⟩⟩
    have hc := ho.cells (g := g) rfl j (vs.getD j (.bool false)) (by simp [List.getD_eq_getElem?_getD, show j < vs.length by omega])
    rwa [Addr.add_lit] at hc
theorem own_ne {w : World} {b e s n : Nat} {v : Value} {xs : List Value} (h : w.ownsRow b e s v n xs) {g : Nat} {cs : Array Value} {t : TypeId} {q : Nat × Nat} (hg : w.heap[g]? = some (.cells cs t q)) (ht : e ≠ t) : v.ownBlock ≠ some g := by
  rcases h.2 with ⟨rfl, _⟩ | ⟨g', cap, cur, rfl, _, hh, _⟩
  · simp [Value.ownBlock]
  · intro he
    have : g' = g := by simpa [Value.ownBlock] using he
    subst this
    rw [hh] at hg
    simp only [Option.some.injEq, Obj.cells.injEq] at hg
    exact ht hg.2.1
theorem grown_set (w : World) (g i : Nat) (x : Value) : w.grownBy (w.setCell ⟨g, i, none⟩ x) (some g) :=
  ⟨rfl, rfl, rfl, by simp [World.setCell], fun k _ hk => heap_setCell_other w ⟨g, i, none⟩ k x (fun e => hk (by simp [e]))⟩
theorem own_set {w : World} {b e s n : Nat} {v : Value} {xs : List Value} (h : w.ownsRow b e s v n xs) {g : Nat} {cs : Array Value} {t : TypeId} {q : Nat × Nat} (hg : w.heap[g]? = some (.cells cs t q)) (ht : e ≠ t) (i : Nat) (x : Value) : (w.setCell ⟨g, i, none⟩ x).ownsRow b e s v n xs :=
  h.kept (grown_set w g i x) (.inr (own_ne h hg ht))
theorem blk_put {w : World} {g : Nat} {cs : Array Value} {t : TypeId} (h : w.heap[g]? = some (.cells cs t)) (i : Nat) (x : Value) : (w.setCell ⟨g, i, none⟩ x).heap[g]? = some (.cells (cs.setIfInBounds i x) t) := heap_setCell_same w g i cs t x h
end Go.Proofs.Ytkodmicocjklcaa
