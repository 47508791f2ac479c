/- A state that holds what was written: its methods. -/
import Derived.Test.YtkodmicocjklcaaShSums
namespace Go.Proofs.Ytkodmicocjklcaa
open Go.RowKit

/-- What a state holds, plainly: the bytes that were written. -/
structure Has (w : World) (g : Nat) (A : Option Addr) (c : Nat) (base : Nat) (L : List Int) : Prop where
  st : St w g (eatF beginL L).1 (.slice A (eatF beginL L).2.length c) ((L.length : Nat) : Int)
  left : OwnB w base (.slice A (eatF beginL L).2.length c) (eatF beginL L).2
theorem Has.ints {w : World} {g : Nat} {A : Option Addr} {c base : Nat} {L : List Int} (h : Has w g A c base L) : Ints .u8 w A (eatF beginL L).2 := by
  obtain ⟨A', c', hv, _, hi⟩ := h.left.bv
  simp only [Value.slice.injEq] at hv
  rw [hv.1]; exact hi
theorem Has.below {w w1 : World} {g : Nat} {A : Option Addr} {c base : Nat} {L : List Int} (h : Has w g A c base L) (hb : Below w.heap.size w w1) : Has w1 g A c base L := ⟨blk_below h.st hb, own_below h.left hb⟩
theorem begin_len (L : List Int) : (eatF beginL L).1.length = 8 := by rw [eatF_len]; rfl
theorem Has.sum {w : World} {g : Nat} {A : Option Addr} {c base : Nat} {L : List Int} (h : Has w g A c base L) (hL : L.length ≤ 1000000) (hy : Byt L) :
    Calls Try.prog 14 #[.pointer (some ⟨g, 0, none⟩)] w fun e w' => ∃ A' c', e = .returned (.slice A' 48 c') ∧ OwnB w' w.heap.size (.slice A' 48 c') (digest L) ∧ Below w.heap.size w w' := by
  have hr := eatF_rest beginL _ L (Nat.le_refl _)
  refine (stateSum_any g A (eatF beginL L).2 c w (eatF beginL L).1 L.length (begin_len L) (by omega) (by omega) (hr.2.2 hy) h.st h.ints).mono ?_
  rintro e w' ⟨u, rfl, ho, hb⟩
  obtain ⟨A', c', hu, _, _⟩ := ho.bv
  rw [sumF_len] at hu
  subst hu
  exact ⟨A', c', rfl, ho, hb⟩
theorem Has.write {w : World} {g : Nat} {A : Option Addr} {c base : Nat} {L : List Int} (h : Has w g A c base L) {B : Option Addr} {ls : List (List Int)} {d : Nat} (hl : ls.length ≤ 1000000) (hL : L.length ≤ 1000000) (ht : tot ls ≤ 1000000) (hyL : Byt L) (hyl : ∀ l ∈ ls, Byt l) (hA : RowsF g (Value.slice A (eatF beginL L).2.length c).ownBlock w B ls) :
    Calls Try.prog 13 #[.pointer (some ⟨g, 0, none⟩), .slice B ls.length d] w fun e w' => Tch g (Value.slice A (eatF beginL L).2.length c).ownBlock w w' ∧ ∃ A' c', e = .returned (.tuple #[]) ∧ Has w' g A' c' w.heap.size (L ++ ls.flatten) := by
  have hr := eatF_rest beginL _ L (Nat.le_refl _)
  refine (write_any g _ (eatF beginL L).2 (eatF beginL L).1 ((L.length : Nat) : Int) B ls d w (begin_len L) hl (by omega) (by omega) (by omega) h.st (World.ownsRow.mono h.left (Nat.zero_le _)) (hr.2.2 hyL) hyl hA).mono ?_
  rintro e w' ⟨ht', v', rfl, hs, ho⟩
  rw [eatF_app _ _ _ _ (Nat.le_refl _)] at hs ho
  obtain ⟨A', c', hv, _, _⟩ := ho.bv
  subst hv
  refine ⟨ht', A', c', rfl, ?_, ho⟩
  have e : ((L.length : Nat) : Int) + (tot ls : Int) = (((L ++ ls.flatten).length : Nat) : Int) := by rw [List.length_append, flat_len]; omega
  rw [e] at hs
  exact hs
theorem Has.copy {w : World} {g : Nat} {A : Option Addr} {c base : Nat} {L : List Int} (h : Has w g A c base L) (hL : L.length ≤ 1000000) :
    Calls Try.prog 15 #[.pointer (some ⟨g, 0, none⟩)] w fun e w' => ∃ A' c', e = .returned (.pointer (some ⟨w.heap.size, 0, none⟩)) ∧ Has w' w.heap.size A' c' (w.heap.size + 1) L ∧ Below w.heap.size w w' := by
  have hr := eatF_rest beginL _ L (Nat.le_refl _)
  refine (copyState_any g A (eatF beginL L).2 c w (eatF beginL L).1 _ (begin_len L) h.st (by omega) h.ints).mono ?_
  rintro e w' ⟨v, rfl, hs, ho, hb⟩
  obtain ⟨A', c', hv, _, _⟩ := ho.bv
  subst hv
  exact ⟨A', c', rfl, ⟨hs, ho⟩, hb⟩
theorem new_has (w : World) : Calls Try.prog 12 #[] w fun e w' => ∃ g, e = .returned (.pointer (some ⟨g, 0, none⟩)) ∧ w.heap.size ≤ g ∧ Has w' g none 0 0 [] ∧ Below w.heap.size w w' := by
  refine (new_any w).mono ?_
  rintro e w' ⟨g, rfl, hg, hs, hb⟩
  have he : eatF beginL [] = (beginL, []) := eatF_small _ (by simp)
  exact ⟨g, rfl, hg, ⟨by rw [he]; exact hs, by rw [he]; exact World.ownsRow_nil _ _ _ _⟩, hb⟩
theorem Has.len {w : World} {g : Nat} {A : Option Addr} {c base : Nat} {L : List Int} (h : Has w g A c base L) : Calls Try.prog 16 #[.pointer (some ⟨g, 0, none⟩)] w fun e w' => e = .returned (.int .i64 ((L.length : Nat) : Int)) ∧ w = w' :=
  len_any g w _ _ _ (begin_len L) h.st
/-- A state stays as it is while another one is written. -/
theorem Has.tch {w w1 : World} {g : Nat} {A : Option Addr} {c base : Nat} {L : List Int} (h : Has w g A c base L) {g' : Nat} {vb : Option Nat} (ht : Tch g' vb w w1) (hg : g' < g) (hgb : g' < base) (hv : ∀ k, vb = some k → k < g ∧ k < base) : Has w1 g A c base L := by
  refine ⟨?_, ?_⟩
  · have hlt : g < w.heap.size := (Array.getElem?_eq_some_iff.1 h.st).1
    exact (ht.block g hlt (by omega) (fun e => by have := hv g e.symm; omega)).trans h.st
  · refine ht.grownBut h.left (fun e => ?_) ?_
    · have := (World.ownsRow.lt h.left g' e).1; omega
    · by_cases hn : (Value.slice A (eatF beginL L).2.length c).ownBlock = none
      · exact .inl hn
      · refine .inr (fun e => ?_)
        obtain ⟨k, hk⟩ := Option.ne_none_iff_exists'.1 hn
        have h1 := (World.ownsRow.lt h.left k hk).1
        have h2 := (hv k (by rw [← e, hk])).2
        omega
theorem Has.apart {w w1 : World} {g : Nat} {A : Option Addr} {c base : Nat} {L : List Int} (h : Has w g A c base L) {g' : Nat} {vb : Option Nat} (ht : Tch g' vb w w1) (hg : g' ≠ g) (hgb : (Value.slice A (eatF beginL L).2.length c).ownBlock ≠ some g') (hv : ∀ k, vb = some k → k ≠ g ∧ (Value.slice A (eatF beginL L).2.length c).ownBlock ≠ some k) : Has w1 g A c base L := by
  refine ⟨?_, ?_⟩
  · have hlt : g < w.heap.size := (Array.getElem?_eq_some_iff.1 h.st).1
    exact (ht.block g hlt (fun e => hg e.symm) (fun e => (hv g e.symm).1 rfl)).trans h.st
  · refine ht.grownBut h.left hgb ?_
    by_cases hn : (Value.slice A (eatF beginL L).2.length c).ownBlock = none
    · exact .inl hn
    · refine .inr (fun e => ?_)
      obtain ⟨k, hk⟩ := Option.ne_none_iff_exists'.1 hn
      exact (hv k (by rw [← e, hk])).2 hk
theorem own_apart {w w1 : World} {base : Nat} {v : Value} {l : List Int} (h : OwnB w base v l) {g' : Nat} {vb : Option Nat} (ht : Tch g' vb w w1) (hgb : v.ownBlock ≠ some g') (hv : ∀ k, vb = some k → v.ownBlock ≠ some k) : OwnB w1 base v l := by
  refine ht.grownBut h hgb ?_
  by_cases hn : v.ownBlock = none
  · exact .inl hn
  · refine .inr (fun e => ?_)
    obtain ⟨k, hk⟩ := Option.ne_none_iff_exists'.1 hn
    exact hv k (by rw [← e, hk]) hk
theorem own_tch {w w1 : World} {base : Nat} {v : Value} {l : List Int} (h : OwnB w base v l) {g' : Nat} {vb : Option Nat} (ht : Tch g' vb w w1) (hg : g' < base) (hv : ∀ k, vb = some k → k < base) : OwnB w1 base v l := by
  refine ht.grownBut h (fun e => ?_) ?_
  · have := (World.ownsRow.lt h g' e).1; omega
  · by_cases hn : v.ownBlock = none
    · exact .inl hn
    · refine .inr (fun e => ?_)
      obtain ⟨k, hk⟩ := Option.ne_none_iff_exists'.1 hn
      have h1 := (World.ownsRow.lt h k hk).1
      have h2 := hv k (by rw [← e, hk])
      omega
theorem OwnB.below {w w1 : World} {base : Nat} {v : Value} {l : List Int} (h : OwnB w base v l) (hb : Below w.heap.size w w1) : OwnB w1 base v l := own_below h hb
theorem OwnB.ints {w : World} {base n c : Nat} {A : Option Addr} {l : List Int} (h : OwnB w base (.slice A n c) l) : l.length = n ∧ Ints .u8 w A l := by
  obtain ⟨A', c', hv, _, hi⟩ := h.bv
  simp only [Value.slice.injEq] at hv
  exact ⟨hv.2.1.symm, by rw [hv.1]; exact hi⟩
theorem bytes_at (A B : Option Addr) (x y : List Int) (n m c d : Nat) (w : World) (hn : x.length = n) (hm : y.length = m) (hxy : x = y) (hx : Ints .u8 w A x) (hy : Ints .u8 w B y) :
    Calls Try.prog 10 #[.slice A n c, .slice B m d] w fun e w' => e = .returned (.bool true) ∧ w = w' := by
  subst hn hm hxy
  exact bytes_same A B x c d w hx hy
theorem sum_at {w : World} {B : Option Addr} {ls : List (List Int)} {n d : Nat} {L : List Int} (hn : ls.length = n) (hL : ls.flatten = L) (hl : n ≤ 1000000) (ht : L.length ≤ 1000000) (hyl : ∀ l ∈ ls, Byt l) (hA : Rows w B ls) :
    Calls Try.prog 9 #[.slice B n d] w fun e w' => ∃ A' c', e = .returned (.slice A' 48 c') ∧ OwnB w' w.heap.size (.slice A' 48 c') (digest L) ∧ Below w.heap.size w w' := by
  subst hn hL
  refine (sum_any B ls d w hl (by rw [← flat_len]; exact ht) hyl hA).mono ?_
  rintro e w' ⟨u, rfl, ho, hb⟩
  obtain ⟨A', c', hu, _, _⟩ := ho.bv
  rw [show (digest ls.flatten).length = 48 from sumF_len _ _ _] at hu
  subst hu
  exact ⟨A', c', rfl, ho, hb⟩
end Go.Proofs.Ytkodmicocjklcaa
