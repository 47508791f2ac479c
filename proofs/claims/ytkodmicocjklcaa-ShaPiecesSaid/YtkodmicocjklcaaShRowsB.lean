/- What an argument's data tell of slices of bytes, and of lists of them. -/
import Derived.Test.YtkodmicocjklcaaShFirst
import Derived.SizedLaws
import Derived.ProofKit
import Derived.OpenShut
import Derived.ShutString
import Derived.Deep.Slices
namespace Go.Proofs.Ytkodmicocjklcaa
open Go.ChangeShapes Go.WideShapes Go.ChangeAt Go.RowKit

section
variable {H : Type} {enc : TypeId × Value → H} {P : Program} {w : World} {spare : Nat → Bool} {held : Bool}

def Fits (P : Program) (t : TypeId) (d : DataW H) : Prop := ∀ n ∈ d.weights P t, n ≤ reachBytes
theorem fits_arg {ts : List TypeId} {ds : List (DataW H)} (h : (DataW.weightsEach P ts ds).all (· ≤ reachBytes) = true) {j : Nat} {t : TypeId} {d : DataW H} (ht : ts[j]? = some t) (hd : ds[j]? = some d) : Fits P t d := fun n hn => by
  have := List.all_eq_true.1 h _ (DataW.weights_mem_each ht hd n hn)
  simpa using this
theorem mem_weightsAll {e : TypeId} : ∀ {l : List (DataW H)} {d : DataW H}, d ∈ l → ∀ n ∈ d.weights P e, n ∈ DataW.weightsAll P e l
  | x :: l, d, hd, n, hn => by
    rw [DataW.weightsAll]
    rcases List.mem_cons.1 hd with rfl | hd
    · exact List.mem_append.2 (.inl hn)
    · exact List.mem_append.2 (.inr (mem_weightsAll hd n hn))
theorem Fits.elem {t e : TypeId} {elems sp : List (DataW H)} (h : Fits P t (.slice elems sp)) (hu : P.underlying t = some (.slice e)) {d : DataW H} (hd : d ∈ elems) : Fits P e d := fun n hn =>
  h n (by simp only [DataW.weights, hu]; exact List.mem_cons_of_mem _ (List.mem_append.2 (.inl (mem_weightsAll hd n hn))))
theorem Fits.len {t e : TypeId} {elems sp : List (DataW H)} (h : Fits P t (.slice elems sp)) (hu : P.underlying t = some (.slice e)) : (elems.length + sp.length) * P.bytesOf e ≤ reachBytes :=
  h _ (by simp [DataW.weights, hu])

theorem spot_none {a : Addr} {v : Value} (h : w.cell? (a.add 0) = some v) : ∃ b off, a = ⟨b, off, none⟩ := by
  obtain ⟨b, off, spot⟩ := a
  cases spot with
  | none => exact ⟨b, off, rfl⟩
  | some s => simp [World.cell?, Addr.add] at h; split at h <;> simp at h

theorem row_bytes {t e : TypeId} {fuel : Nat} {v : Value} {x : DataW H × List MemPlace} (ht : P.underlying t = some (.slice e)) (he : P.underlying e = some (.int .u8)) (hc : P.cellsOf e = 1) (h1 : P.bytesOf e = 1)
    (h : DataW.trod enc P w 0 spare held fuel t [v] = some x) (hf : Fits P t x.1) :
    ∃ (A : Option Addr) (l : List Int) (c : Nat), v = .slice A l.length c ∧ l.length ≤ c ∧ l.length ≤ 140737488351232 ∧ Byt l ∧ Ints .u8 w A l := by
  rcases open_ints ht he hc h with ⟨hcs, _⟩ | ⟨a, len, cap, zs, hcs, _, hl, hm, hz, rfl, hcell, hwz⟩
  · simp at hcs
    subst hcs
    exact ⟨none, [], 0, rfl, Nat.le_refl _, Nat.zero_le _, fun x hx => by simp at hx, Ints.nil _ _ _⟩
  · simp at hcs
    subst hcs
    have hlz : len ≤ zs.length := by rw [hz]; split <;> omega
    have hlen : (zs.take len).length = len := by rw [List.length_take]; omega
    have hfl := hf.len ht
    rw [h1] at hfl
    refine ⟨some a, zs.take len, cap, by rw [hlen], by rw [hlen]; exact hl, ?_, fun x hx => ?_, fun hn => ?_⟩
    · rw [hlen]
      simp [lits, reachBytes] at hfl
      omega
    · have := bounds_u8 (hwz x (List.mem_of_mem_take hx)); omega
    · have hp : 0 < len := by rw [← hlen]; exact List.length_pos_iff.2 hn
      obtain ⟨b, off, rfl⟩ := spot_none (hcell 0 (by omega))
      refine ⟨b, off, rfl, fun j hj => ?_⟩
      rw [hlen] at hj
      have h2 := hcell j (by omega)
      rw [Addr.add_lit] at h2
      rw [h2]
      simp [List.getD_eq_getElem?_getD, hj]

/-- A list of lists of bytes, each of them readable, none too long for a machine. -/
def Wide (ls : List (List Int)) : Prop := ∀ l ∈ ls, Byt l ∧ l.length ≤ 140737488351232

theorem row_lists {t e u : TypeId} {fuel : Nat} {v : Value} {x : DataW H × List MemPlace} (ht : P.underlying t = some (.slice e)) (he : P.underlying e = some (.slice u)) (hu : P.underlying u = some (.int .u8)) (hce : P.cellsOf e = 1) (hc : P.cellsOf u = 1)
    (h1 : P.bytesOf u = 1) (h24 : P.bytesOf e = 24) (h : DataW.trod enc P w 0 spare held fuel t [v] = some x) (hf : Fits P t x.1) :
    ∃ (A : Option Addr) (ls : List (List Int)) (c : Nat), v = .slice A ls.length c ∧ ls.length ≤ c ∧ ls.length ≤ 140737488351232 ∧ Wide ls ∧ Rows w A ls := by
  rcases Go.Deep.open_slice1 ht hce h with ⟨hcs, _⟩ | ⟨a, len, cap, m, n, V, D, Pl, hcs, _, hl, hm, hmm, rfl, hx⟩
  · simp at hcs
    subst hcs
    exact ⟨none, [], 0, rfl, Nat.le_refl _, Nat.zero_le _, fun x hx => by simp at hx, fun h => absurd rfl h⟩
  · simp at hcs
    subst hcs
    have hlm : len ≤ m := by rw [hmm]; split <;> omega
    obtain ⟨L, hL⟩ := Go.Deep.choose_lt (n := len) (p := fun j (l : List Int) => ∃ A c, V j = .slice A l.length c ∧ l.length ≤ c ∧ l.length ≤ 140737488351232 ∧ Byt l ∧ Ints .u8 w A l) (fun j hj => by
      obtain ⟨A, l, c, h2⟩ := row_bytes he hu hc h1 (hx j (by omega)).2 (hf.elem ht (List.mem_map.2 ⟨j, List.mem_range.2 hj, rfl⟩))
      exact ⟨l, A, c, h2⟩)
    have hg : ∀ j, j < len → ((List.range len).map L).getD j [] = L j := fun j hj => by simp [List.getD_eq_getElem?_getD, hj]
    have hfl := hf.len ht
    rw [h24] at hfl
    refine ⟨some a, (List.range len).map L, cap, by simp, by simpa using hl, ?_, fun l hl' => ?_, fun hn => ?_⟩
    · simp [reachBytes] at hfl ⊢
      omega
    · simp only [List.mem_map, List.mem_range] at hl'
      obtain ⟨j, hj, rfl⟩ := hl'
      obtain ⟨_, _, _, _, h3, h4, _⟩ := hL j hj
      exact ⟨h4, h3⟩
    · have hp : 0 < len := by
        rcases Nat.eq_zero_or_pos len with h | h
        · subst h; simp at hn
        · exact h
      obtain ⟨b, off, rfl⟩ := spot_none (hx 0 (by omega)).1
      refine ⟨b, off, rfl, fun j hj => ?_⟩
      have hj' : j < len := by simpa using hj
      have h2 := (hx j (by omega)).1
      rw [Addr.add_lit] at h2
      obtain ⟨A, c, h3, h4, _, _, h5⟩ := hL j hj'
      exact ⟨V j, h2, by rw [hg j hj']; exact ⟨A, c, h3, h4, h5⟩⟩
end
end Go.Proofs.Ytkodmicocjklcaa
