/- Both readers' Feed, in one word; what stands beside a feeding call. -/
import Derived.Test.YtkcffggjggedjaaFrFeedO
import Derived.Test.YtkcffggjggedjaaFrFeedK
import Derived.Test.YtkcffggjggedjaaFrLimit
namespace Go.Proofs.Ytkcffggjggedjaa
open Go.RowKit

open Classical in
/-- What a feeding call tells: the messages, what is left, whether it had too much, the error. -/
noncomputable def fedF (most had : Int) (b : List Int) (over : Bool) (ls : List (List Int)) : List (List Int) × List Int × Bool × Int :=
  if over = true ∨ most < had + tot ls then ([], [], true, 13) else ((takeR (b ++ ls.flatten)).1, (b ++ ls.flatten).drop (takeR (b ++ ls.flatten)).2, false, 0)
theorem fedF_byt {most had : Int} {b : List Int} {over : Bool} {ls : List (List Int)} (hb : Byt b) (hl : ∀ l ∈ ls, Byt l) :
    (∀ l ∈ (fedF most had b over ls).1, Byt l) ∧ Byt (fedF most had b over ls).2.1 ∧ (fedF most had b over ls).2.1.length ≤ b.length + tot ls ∧ 2 * (fedF most had b over ls).1.length ≤ b.length + tot ls := by
  have h := byt_app hb (byt_flat hl)
  unfold fedF
  split
  · exact ⟨fun l hl => by simp at hl, byt_nil, by simp, by simp⟩
  · have h3 := takeR_le _ (b ++ ls.flatten) (Nat.le_refl _)
    have h4 : (b ++ ls.flatten).length = b.length + tot ls := by rw [List.length_append, flat_len]
    refine ⟨takeR_byt _ _ (Nat.le_refl _) h, fun y hy => h y (List.mem_of_mem_drop hy), ?_, by rw [← h4]; exact h3.2⟩
    show ((b ++ ls.flatten).drop _).length ≤ _
    rw [List.length_drop, h4]; omega
def FedR (Rd : World → Nat → Int → Int → Value → Bool → Prop) (g : Nat) (most had : Int) (v : Value) (ls : List (List Int)) (r : List (List Int) × List Int × Bool × Int) (w : World) (e : Ending) (w' : World) : Prop :=
  Tch g v.ownBlock w w' ∧ ∃ (vo : Value) (A : Option Addr) (c mid : Nat), e = .returned (.tuple #[vo, .int .i64 r.2.2.2]) ∧ Rd w' g most (had + tot ls) (.slice A r.2.1.length c) r.2.2.1 ∧ w.heap.size ≤ mid ∧ mid ≤ w'.heap.size ∧
    OwnB w' mid (.slice A r.2.1.length c) r.2.1 ∧ OwnM w' w.heap.size mid vo r.1
theorem OwnM.nil (w : World) (base mid : Nat) : OwnM w base mid (.slice none 0 0) [] := ⟨[], rfl, World.ownsRow_nil _ _ _ _, fun j hj => by simp at hj⟩

theorem feedA_any (g : Nat) (most had : Int) (v : Value) (b : List Int) (over : Bool) (A : Option Addr) (ls : List (List Int)) (c : Nat) (w : World) (hl : ls.length ≤ 1000000) (h0 : 0 ≤ had) (hH : had + tot ls ≤ 4611686018427387904)
    (hsz : b.length + tot ls ≤ 268435456) (hg : RdA w g most had v over) (hv : OwnB w 0 v b) (hyb : Byt b) (hyl : ∀ l ∈ ls, Byt l) (hA : ∀ wr, Tch g v.ownBlock w wr → Rows wr A ls) :
    Calls Try.prog 19 #[.pointer (some ⟨g, 0, none⟩), .slice A ls.length c] w (FedR RdA g most had v ls (fedF most had b over ls) w) := by
  unfold fedF
  split
  · rename_i h
    refine (feed_over g most had v over A ls c w hl h0 hH hg hA h).mono ?_
    rintro e w' ⟨h1, rfl, h3⟩
    exact ⟨h1, _, none, 0, w.heap.size, rfl, h3, Nat.le_refl _, h1.size, World.ownsRow_nil _ _ _ _, OwnM.nil _ _ _⟩
  · rename_i h
    have ho : over = false := by cases over; rfl; exact absurd (.inl rfl) h
    subst ho
    refine (feed_ok g most had v b A ls c w hl h0 hH hsz hg hv hyb hyl hA (by have := fun x => h (.inr x); omega)).mono ?_
    rintro e w' ⟨h1, vo, v', mid, rfl, h3, h4, h5, h6, h7⟩
    obtain ⟨A', c', hv', _, _⟩ := h6.bv
    subst hv'
    exact ⟨h1, _, A', c', mid, rfl, h3, h4, h5, h6, h7⟩
theorem feedB_any (g : Nat) (most had : Int) (v : Value) (b : List Int) (over : Bool) (A : Option Addr) (ls : List (List Int)) (c : Nat) (w : World) (hl : ls.length ≤ 1000000) (h0 : 0 ≤ had) (hH : had + tot ls ≤ 4611686018427387904)
    (hsz : b.length + tot ls ≤ 268435456) (hg : RdB w g most had v over) (hv : OwnB w 0 v b) (hyb : Byt b) (hyl : ∀ l ∈ ls, Byt l) (hA : ∀ wr, Tch g v.ownBlock w wr → Rows wr A ls) :
    Calls Try.prog 20 #[.pointer (some ⟨g, 0, none⟩), .slice A ls.length c] w (FedR RdB g most had v ls (fedF most had b over ls) w) := by
  unfold fedF
  split
  · rename_i h
    refine (feedB_over g most had v over A ls c w hl h0 hH hg hA h).mono ?_
    rintro e w' ⟨h1, rfl, h3⟩
    exact ⟨h1, _, none, 0, w.heap.size, rfl, h3, Nat.le_refl _, h1.size, World.ownsRow_nil _ _ _ _, OwnM.nil _ _ _⟩
  · rename_i h
    have ho : over = false := by cases over; rfl; exact absurd (.inl rfl) h
    subst ho
    refine (feedB_ok g most had v b A ls c w hl h0 hH hsz hg hv hyb hyl hA (by have := fun x => h (.inr x); omega)).mono ?_
    rintro e w' ⟨h1, vo, v', mid, rfl, h3, h4, h5, h6, h7⟩
    obtain ⟨A', c', hv', _, _⟩ := h6.bv
    subst hv'
    exact ⟨h1, _, A', c', mid, rfl, h3, h4, h5, h6, h7⟩

/-! ### what a feeding call leaves -/
theorem Tch.grownBut {g : Nat} {vb : Option Nat} {w w' : World} (h : Tch g vb w w') {e : TypeId} {b s n : Nat} {u : Value} {xs : List Value} (hu : w.ownsRow b e s u n xs) (hg : u.ownBlock ≠ some g) (hv : u.ownBlock = none ∨ u.ownBlock ≠ vb) : w'.ownsRow b e s u n xs := by
  rcases hu.2 with ⟨rfl, hn⟩ | ⟨k, cap, cur, rfl, hb, hk, h1, h2, h3, h4⟩
  · exact ⟨hu.1, .inl ⟨rfl, hn⟩⟩
  · refine ⟨hu.1, .inr ⟨k, cap, cur, rfl, hb, ?_, h1, h2, h3, h4⟩⟩
    have hlt := (Array.getElem?_eq_some_iff.1 hk).1
    rw [h.block k hlt (fun e => hg (by rw [e]; rfl)) (fun e => by
      rcases hv with hv | hv
      · simp [Value.ownBlock] at hv
      · exact hv (by rw [← e]; rfl))]
    exact hk
theorem OwnM.tch {g : Nat} {vb : Option Nat} {w w' : World} (h : Tch g vb w w') {base mid : Nat} {v : Value} {ls : List (List Int)} (ho : OwnM w base mid v ls) (hg : g < base) (hv : ∀ k, vb = some k → k < base) : OwnM w' base mid v ls := by
  obtain ⟨vs, h1, h2, h3⟩ := ho
  have key : ∀ {e : TypeId} {s n : Nat} {u : Value} {xs : List Value}, w.ownsRow base e s u n xs → w'.ownsRow base e s u n xs := fun {e s n u xs} hu => by
    refine h.grownBut hu (fun e => ?_) ?_
    · have := (World.ownsRow.lt hu g e).1; omega
    · by_cases hn : u.ownBlock = none
      · exact .inl hn
      · refine .inr (fun e => ?_)
        obtain ⟨k, hk⟩ := Option.ne_none_iff_exists'.1 hn
        have h1 := (World.ownsRow.lt hu k hk).1
        have h2 := hv k (by rw [← e, hk])
        omega
  exact ⟨vs, h1, key h2, fun j hj => ⟨key (h3 j hj).1, (h3 j hj).2⟩⟩
/-- Two rows of bytes lie apart. -/
def Apart (u v : Value) : Prop := ∀ k, u.ownBlock = some k → v.ownBlock ≠ some k
theorem apart_ne {u v : Value} (h : Apart u v) : u.ownBlock = none ∨ u.ownBlock ≠ v.ownBlock := by
  by_cases hn : u.ownBlock = none
  · exact .inl hn
  · obtain ⟨k, hk⟩ := Option.ne_none_iff_exists'.1 hn
    exact .inr (fun e => h k hk (by rw [← e, hk]))
end Go.Proofs.Ytkcffggjggedjaa
