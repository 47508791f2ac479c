/- sha.Write: what the call comes to. -/
import Derived.Test.YtkodmicocjklcaaShNew
import Derived.RowKit3
import Derived.Deep.LoopGhost
import Derived.Deep.Onto
namespace Go.Proofs.Ytkodmicocjklcaa
open Go.RowKit

def Byt (l : List Int) : Prop := ∀ x ∈ l, 0 ≤ x ∧ x ≤ 255
theorem byt_flat {ls : List (List Int)} (h : ∀ l ∈ ls, Byt l) : Byt ls.flatten := fun x hx => by
  obtain ⟨l, h1, h2⟩ := List.mem_flatten.1 hx
  exact h l h1 x h2
theorem byt_app {a b : List Int} (ha : Byt a) (hb : Byt b) : Byt (a ++ b) := fun x hx => by
  rcases List.mem_append.1 hx with h | h
  · exact ha x h
  · exact hb x h
theorem byt_take {l : List Int} (h : Byt l) (n : Nat) : Byt (l.take n) := fun x hx => h x (List.mem_of_mem_take hx)
theorem byt_drop {l : List Int} (h : Byt l) (n : Nat) : Byt (l.drop n) := fun x hx => h x (List.mem_of_mem_drop hx)
theorem byt_nil : Byt [] := fun x hx => by simp at hx

/-! ### whole blocks of what is left -/
def eat : Nat → List (BitVec 64) → List Int → List (BitVec 64) × List Int
  | 0, H, L => (H, L)
  | k + 1, H, L => if 128 ≤ L.length then eat k (mixF H (L.take 128)) (L.drop 128) else (H, L)
def eatF (H : List (BitVec 64)) (L : List Int) : List (BitVec 64) × List Int := eat L.length H L
theorem eat_more : ∀ (k j : Nat) (H : List (BitVec 64)) (L : List Int), L.length ≤ 128 * k → L.length ≤ 128 * j → eat k H L = eat j H L
  | 0, 0, H, L, _, _ => rfl
  | 0, j + 1, H, L, h, _ => by rw [eat, eat, if_neg (by omega)]
  | k + 1, 0, H, L, _, h => by rw [eat, eat, if_neg (by omega)]
  | k + 1, j + 1, H, L, h1, h2 => by
    rw [eat, eat]
    by_cases h : 128 ≤ L.length
    · rw [if_pos h, if_pos h, eat_more k j _ _ (by simp; omega) (by simp; omega)]
    · rw [if_neg h, if_neg h]
theorem eatF_big (H : List (BitVec 64)) {L : List Int} (h : 128 ≤ L.length) : eatF H L = eatF (mixF H (L.take 128)) (L.drop 128) := by
  unfold eatF
  rw [eat_more L.length ((L.drop 128).length + 1) H L (by omega) (by simp; omega), eat, if_pos h]
theorem eatF_small (H : List (BitVec 64)) {L : List Int} (h : L.length < 128) : eatF H L = (H, L) := by
  unfold eatF
  rw [eat_more L.length 1 H L (by omega) (by omega), eat, if_neg (by omega)]
theorem eatF_len (H : List (BitVec 64)) (L : List Int) : (eatF H L).1.length = H.length := by
  have : ∀ (k : Nat) (H : List (BitVec 64)) (L : List Int), (eat k H L).1.length = H.length := by
    intro k
    induction k with
    | zero => intro H L; rfl
    | succ k ih =>
      intro H L
      rw [eat]
      split
      · rw [ih, mixF_len]
      · rfl
  exact this _ _ _

theorem Ints.take {k : IntKind} {w : World} {A : Option Addr} {l : List Int} (h : Ints k w A l) (n : Nat) : Ints k w A (l.take n) := fun hn => by
  obtain ⟨b, off, rfl, hx⟩ := h (by intro e; rw [e] at hn; simp at hn)
  refine ⟨b, off, rfl, fun j hj => ?_⟩
  rw [List.length_take] at hj
  rw [hx j (by omega)]
  simp [List.getD_eq_getElem?_getD, show j < n by omega]
theorem Ints.tail {w : World} {A : Option Addr} {n : Nat} {l : List Int} (h : Ints .u8 w A l) : Ints .u8 w (A.map (·.add n)) (l.drop n) := fun hne => by
  have hp : n < l.length := by
    rcases Nat.lt_or_ge n l.length with h | h
    · exact h
    · exact absurd (List.drop_eq_nil_of_le h) hne
  obtain ⟨b, off, rfl, hx⟩ := h (by intro h; rw [h] at hp; simp at hp)
  refine ⟨b, off + n, by simp [Addr.add_lit], fun j hj => ?_⟩
  rw [List.length_drop] at hj
  rw [Nat.add_assoc, hx (n + j) (by omega)]
  simp [List.getD_eq_getElem?_getD]
def NotAt (g : Nat) (A : Option Addr) : Prop := ∀ a, A = some a → a.block ≠ g
theorem NotAt.tail {g n : Nat} {A : Option Addr} (h : NotAt g A) : NotAt g (A.map (·.add n)) := fun a ha => by
  cases A with
  | none => simp at ha
  | some b =>
    have h1 := h b rfl
    simp at ha
    subst ha
    obtain ⟨bb, off, sp⟩ := b
    unfold Addr.add
    split <;> simpa using h1
theorem Ints.tch {g : Nat} {w wr : World} {A : Option Addr} {xs : List Int} (h : Ints .u8 w A xs) (ht : Tch g none w wr) (hn : NotAt g A) : Ints .u8 wr A xs := fun hne => by
  obtain ⟨b, off, rfl, hx⟩ := h hne
  refine ⟨b, off, rfl, fun j hj => ?_⟩
  have h1 := hx j hj
  have hb := World.block_lt_of_cell? w _ h1
  have h2 := ht.block b hb (hn _ rfl) (by simp)
  rw [← h1]
  simp [World.cell?, h2]
theorem Ints.put {g i : Nat} {x : Value} {w : World} {A : Option Addr} {xs : List Int} (h : Ints .u8 w A xs) (hn : NotAt g A) : Ints .u8 (w.setCell ⟨g, i, none⟩ x) A xs := h.tch ((Tch.refl g none w).set i x) hn
/-! ### rows that a call leaves alone -/
def Far (g : Nat) (vb : Option Nat) (b : Nat) : Prop := b ≠ g ∧ some b ≠ vb
structure IntsF (g : Nat) (vb : Option Nat) (w : World) (A : Option Addr) (xs : List Int) : Prop where
  ints : Ints .u8 w A xs
  far : xs ≠ [] → ∀ a, A = some a → Far g vb a.block
theorem IntsF.tch {g : Nat} {vb : Option Nat} {w wr : World} {A : Option Addr} {xs : List Int} (h : IntsF g vb w A xs) (ht : Tch g vb w wr) : IntsF g vb wr A xs := by
  refine ⟨fun hne => ?_, h.far⟩
  obtain ⟨b, off, rfl, hx⟩ := h.ints hne
  have hf := h.far hne _ rfl
  refine ⟨b, off, rfl, fun j hj => ?_⟩
  have h1 := hx j hj
  have h2 := ht.block b (World.block_lt_of_cell? w _ h1) hf.1 hf.2
  rw [← h1]
  simp [World.cell?, h2]
def RowsF (g : Nat) (vb : Option Nat) (w : World) (A : Option Addr) (ls : List (List Int)) : Prop :=
  ls ≠ [] → ∃ b off, A = some ⟨b, off, none⟩ ∧ Far g vb b ∧ ∀ j, j < ls.length → ∃ A' c', w.cell? ⟨b, off + j, none⟩ = some (.slice A' (ls.getD j []).length c') ∧ (ls.getD j []).length ≤ c' ∧ IntsF g vb w A' (ls.getD j [])
theorem RowsF.tch {g : Nat} {vb : Option Nat} {w wr : World} {A : Option Addr} {ls : List (List Int)} (h : RowsF g vb w A ls) (ht : Tch g vb w wr) : RowsF g vb wr A ls := fun hne => by
  obtain ⟨b, off, rfl, hf, hx⟩ := h hne
  refine ⟨b, off, rfl, hf, fun j hj => ?_⟩
  obtain ⟨A', c', h1, h2, h3⟩ := hx j hj
  refine ⟨A', c', ?_, h2, h3.tch ht⟩
  have h4 := ht.block b (World.block_lt_of_cell? w _ h1) hf.1 hf.2
  rw [← h1]
  simp [World.cell?, h4]
theorem RowsF.look {g : Nat} {vb : Option Nat} {w : World} {A : Option Addr} {ls : List (List Int)} (h : RowsF g vb w A ls) {j : Nat} (hj : j < ls.length) :
    ∃ b off A' c, A = some ⟨b, off, none⟩ ∧ w.cell? ⟨b, off + j, none⟩ = some (.slice A' (ls.getD j []).length c) ∧ (ls.getD j []).length ≤ c ∧ IntsF g vb w A' (ls.getD j []) := by
  obtain ⟨b, off, rfl, hf, hx⟩ := h (by intro h; rw [h] at hj; simp at hj)
  obtain ⟨A', c', h1, h2, h3⟩ := hx j hj
  exact ⟨b, off, A', c', rfl, h1, h2, h3⟩
/-- Rows that were there before the state was. -/
theorem Rows.far {w0 w : World} {A : Option Addr} {ls : List (List Int)} (h : Rows w0 A ls) (hb : Below w0.heap.size w0 w) {g : Nat} {vb : Option Nat} (hg : w0.heap.size ≤ g) (hv : ∀ k, vb = some k → w0.heap.size ≤ k) : RowsF g vb w A ls := fun hne => by
  obtain ⟨b, off, rfl, hx⟩ := h hne
  have key : ∀ b, b < w0.heap.size → Far g vb b := fun b hb => ⟨by omega, fun e => by have := hv b e.symm; omega⟩
  have h0 : 0 < ls.length := List.length_pos_iff.2 hne
  obtain ⟨v0, hv0, _⟩ := hx 0 h0
  refine ⟨b, off, rfl, key b (World.block_lt_of_cell? w0 _ hv0), fun j hj => ?_⟩
  obtain ⟨v, h1, A', c', rfl, h2, h3⟩ := hx j hj
  refine ⟨A', c', (hb.cell (World.block_lt_of_cell? w0 _ h1)).trans h1, h2, h3.below hb, fun hn a ha => ?_⟩
  obtain ⟨b', off', hA', hx'⟩ := h3 hn
  have hlen : 0 < (ls.getD j []).length := List.length_pos_iff.2 hn
  have hc := hx' 0 hlen
  rw [ha] at hA'
  have : a.block = b' := by simp only [Option.some.injEq] at hA'; rw [hA']
  rw [this]
  exact key b' (World.block_lt_of_cell? w0 _ hc)
def World.bare (w : World) : World := { w with heap := #[] }
theorem below_bare (w : World) : Below (World.bare w).heap.size (World.bare w) w := ⟨rfl, rfl, rfl, Nat.zero_le _, fun i hi => absurd hi (Nat.not_lt_zero i)⟩

set_option maxRecDepth 100000 in
set_option maxHeartbeats 2000000 in
theorem write_any (g : Nat) (v : Value) (L : List Int) (H : List (BitVec 64)) (n : Int) (A : Option Addr) (ls : List (List Int)) (c : Nat) (w : World) (hH : H.length = 8) (hl : ls.length ≤ 1000000) (h0 : 0 ≤ n) (hN : n + tot ls ≤ 4611686018427387904)
    (hsz : L.length + tot ls ≤ 268435456) (hg : St w g H v n) (hv : OwnB w 0 v L) (hyb : Byt L) (hyl : ∀ l ∈ ls, Byt l) (hA : RowsF g v.ownBlock w A ls) :
    Calls Try.prog 13 #[.pointer (some ⟨g, 0, none⟩), .slice A ls.length c] w fun e w' => Tch g v.ownBlock w w' ∧ ∃ v', e = .returned (.tuple #[]) ∧ St w' g (eatF H (L ++ ls.flatten)).1 v' (n + tot ls) ∧ OwnB w' w.heap.size v' (eatF H (L ++ ls.flatten)).2 := by
  obtain ⟨i0, hi, hz0, hz1, hz2⟩ := info_parts (show (Try.prog.info? 5).map (fun i => (i.zero, i.size, i.bytes)) = some (some (.int .u8 0), 1, 1) by kernel_rfl)
  have HA := Lib.hid hA
  have HG := Lib.hid hg
  have HV := Lib.hid hv
  have HH := Lib.hid hH
  have hX : (L ++ ls.flatten).length ≤ 268435456 := by rw [List.length_append, flat_len]; exact hsz
  have HY := Lib.hid (byt_app hyb (byt_flat hyl))
  have hlt : g < w.heap.size := (Array.getElem?_eq_some_iff.1 hg).1
  generalize hx : L ++ ls.flatten = X at hX HY ⊢
  have HX := Lib.hid (And.intro hx trivial)
  generalize hE : eatF H X = E
  have HE := Lib.hid (And.intro hE trivial)
  clear hA hg hv hyb hyl hx hsz hH hE
  generalize hh : n + (tot ls : Int) = N at hN ⊢
  have HN := Lib.hid (And.intro hh trivial)
  clear hh
  go_enter Try.func13, Try.ntmps13
  go_wp2
  go_loopw [8] (fun vi wr => ∃ (k : Nat) (h : Int) (M : List Int) (vr : Value), k ≤ ls.length ∧ 0 ≤ h ∧ vi = .int .i64 k ∧ Hid (h + (tot (ls.drop k) : Int) = N ∧ True) ∧ Hid (M ++ (ls.drop k).flatten = X ∧ True) ∧ Hid (St wr g H vr h) ∧ Hid (OwnB wr 0 vr M) ∧ Hid (vr.ownBlock = v.ownBlock ∨ ∀ n, vr.ownBlock = some n → w.heap.size ≤ n) ∧ Hid (Tch g v.ownBlock w wr)) (fun vi _ => ls.length - (intOf vi).toNat)
  case atStart => exact ⟨0, n, L, v, by omega, h0, rfl, HN, HX, HG, HV, Lib.hid (.inl rfl), Lib.hid (Tch.refl _ _ _)⟩
  case round =>
    obtain ⟨k, h, M, vr, hk, hh0, rfl, hs, hX', hr, hv, hor, ht⟩ := hrel
    have hLX := congrArg List.length hX'.out.1
    by_cases hlt2 : k < ls.length
    · obtain ⟨b1, o1, A', c', hAe, hc, _, hi1⟩ := (HA.out.tch ht.out).look hlt2
      have hd := congrArg List.flatten (drop_get [] ls hlt2)
      rw [List.flatten_cons] at hd
      have hd1 : tot (ls.drop k) = (ls.getD k []).length + tot (ls.drop (k + 1)) := by rw [drop_get [] ls hlt2, tot_cons]
      have hX2 := hX'.out.1
      have hs2 := hs.out.1
      rw [hd] at hX2 hLX
      rw [hd1] at hs2
      subst hAe
      generalize ls.getD k [] = x at hc hi1 hX2 hLX hs2
      have hLx : M.length + x.length ≤ 268435456 := by simp at hLX; omega
      have hnx : h + (x.length : Int) ≤ 4611686018427387904 := by omega
      have HX2 := Lib.hid (And.intro hX2 trivial)
      have HS2 := Lib.hid hs2
      have HI1 := Lib.hid (hi1.tch ((Tch.refl g v.ownBlock wr).set 9 (.int .i64 (h + (x.length : Int)))))
      have hr9 := Lib.hid (hr.out.putCount HH.out (h + (x.length : Int)))
      have hv9 := Lib.hid (show OwnB (wr.setCell ⟨g, 9, none⟩ (.int .i64 (h + (x.length : Int)))) 0 vr M from own_set hv.out hr.out (by decide) 9 _)
      have ht9 := Lib.hid (ht.out.set 9 (.int .i64 (h + (x.length : Int))))
      have hc9 : wr.cell? ⟨g, 9, none⟩ = some (.int .i64 h) := hr.out.count HH.out
      have hf9 : wr.frozen? ⟨g, 9, none⟩ = false := hr.out.free 9
      have hc8 : wr.cell? ⟨g, 8, none⟩ = some vr := hr.out.left HH.out
      clear hd hd1 hX2 hLX hi1 hs2 hs hX'
      go_wp2_with (at_builtin; go_must (refine wp_append_src (w0 := World.bare (wr.setCell ⟨g, 9, none⟩ (.int .i64 (h + (x.length : Int))))) 0 1 1 (.tmp 25) (.tmp 26) 25 25 5 rfl rfl Try.underlying25 hi hz0 hz1 hz2 rfl (by decide) hv9.out rfl (Ints.src (P := Try.prog) HI1.out.ints Try.underlying25 c') rfl (by unfold maxLen; omega) (by omega) (below_bare _) (Nat.zero_le _) (Nat.le_refl _) ?_); intro v1 w1 ho1 _ hg1 hor1; rw [ints_append] at ho1; obtain ⟨A1, c1, hv1, _⟩ := Ints.own ho1; rw [List.length_append] at hv1; subst hv1; have hr1 : St w1 g H vr (h + (x.length : Int)) := blk_grown hr9.out hg1 (own_ne hv9.out hr9.out (by decide)).symm; have ht1 := Lib.hid (ht9.out.grown hg1 hor.out); have hsz1 := ht9.out.size; have hor2 : (Value.slice A1 (M.length + x.length) c1).ownBlock = v.ownBlock ∨ ∀ n, (Value.slice A1 (M.length + x.length) c1).ownBlock = some n → w.heap.size ≤ n := (by rcases hor1 with h1 | h1; (rw [h1]; exact hor.out); (exact .inr (fun n hn => by rw [h1] at hn; simp at hn; simp [World.setCell] at hsz1; omega))); have hc81 : w1.cell? ⟨g, 8, none⟩ = some vr := hr1.left HH.out; have hf81 : w1.frozen? ⟨g, 8, none⟩ = false := hr1.free 8; have HO1 := Lib.hid ho1; have HR1 := Lib.hid hr1; have HOR := Lib.hid hor2; clear ho1 hg1 hor1 hr1 hor2 hsz1)
      go_roundw
      case rel =>
        refine ⟨k + 1, h + x.length, M ++ x, .slice A1 (M.length + x.length) c1, by omega, by omega, by go_num, Lib.hid ⟨by have := HS2.out; omega, trivial⟩, Lib.hid ⟨by rw [← HX2.out.1]; simp, trivial⟩, Lib.hid (HR1.out.putLeft HH.out _), Lib.hid ?_, HOR, Lib.hid (ht1.out.set 8 _)⟩
        have h1 := own_set HO1.out HR1.out (by decide) 8 (.slice A1 (M.length + x.length) c1)
        unfold OwnB
        simpa using h1
      case measure => simp [intOf]; omega
    · obtain rfl : k = ls.length := by omega
      have hNh : h = N := by have := hs.out.1; rw [List.drop_eq_nil_of_le (Nat.le_refl _)] at this; simpa [tot] using this
      subst hNh
      have hXM : M = X := by have := hX'.out.1; rw [List.drop_eq_nil_of_le (Nat.le_refl _)] at this; simpa using this
      subst hXM
      obtain ⟨Ar, cr, hvr, hcr, hir⟩ := hv.out.bv
      subst hvr
      have HI := Lib.hid hir
      have HNA := Lib.hid (show NotAt g Ar from fun a ha => by
        subst ha
        intro e
        exact own_ne hv.out hr.out (by decide) (by simp [Value.ownBlock, e]))
      clear HG HV HA HX HN hs hX' hLX hv hor hir hN hh0 h0
      go_wp2
      go_loopg [] M.length (fun q wq => ∃ (H' : List (BitVec 64)) (Y : List Int) (A' : Option Addr) (c' : Nat), Y.length = q ∧ Y.length ≤ 268435456 ∧ Y.length ≤ c' ∧ Hid (H'.length = 8) ∧ Hid (eatF H' Y = E ∧ True) ∧ Hid (St wq g H' (.slice A' Y.length c') h) ∧ Hid (Ints .u8 wq A' Y) ∧ Hid (NotAt g A') ∧ Hid (Byt Y) ∧ Hid (Tch g v.ownBlock w wq))
      case atStart => exact ⟨H, M, Ar, cr, rfl, hX, hcr, HH, HE, hr, HI, HNA, HY, ht⟩
      case round =>
        clear hr HI HNA HY ht HH HE
        obtain ⟨H', Y, A', c', rfl, hYl, hYc, hH', hE', hr, HI, HNA, HY, ht⟩ := hrel
        have hc8 : wr.cell? ⟨g, 8, none⟩ = some (.slice A' Y.length c') := hr.out.left hH'.out
        by_cases hbig : 128 ≤ Y.length
        · have hEB := Lib.hid (And.intro (eatF_big H' hbig) trivial)
          have HDL := Lib.hid (show (Y.drop 128).length = Y.length - 128 by simp)
          by_cases hcn : c' = 128
          · subst hcn
            have hdn := Lib.hid (show Y.drop 128 = [] from List.drop_eq_nil_of_le (by omega))
            go_wp2_with (go_at_call 23; refine (mix_any g A' (Y.take 128) 128 wr H' (.slice A' Y.length 128) h hH'.out (by simp; omega) (byt_take HY.out 128) (by omega) (HI.out.take 128) hr.out).mono ?_; rintro e w1 ⟨rfl, hs1, ht1⟩; have hc81 := hs1.left (by rw [mixF_len]; exact hH'.out); have hf81 := hs1.free 8; have HS1 := Lib.hid hs1; have HT1 := Lib.hid ht1; clear hs1 ht1)
            go_roundg (Y.length - 128)
            case measure => omega
            case rel =>
              refine ⟨mixF H' (Y.take 128), Y.drop 128, A', 0, HDL.out, by have := HDL.out; omega, by have := HDL.out; omega, Lib.hid (by rw [mixF_len]; exact hH'.out), Lib.hid ⟨by rw [← hEB.out.1]; exact hE'.out.1, trivial⟩, Lib.hid ?_, Lib.hid (by rw [hdn.out]; exact Ints.nil _ _ _), HNA, Lib.hid (byt_drop HY.out 128), Lib.hid ((ht.out.trans HT1.out.weaken).set 8 _)⟩
              rw [HDL.out, show Y.length - 128 = 0 by omega]
              exact HS1.out.putLeft (by rw [mixF_len]; exact hH'.out) _
          · go_wp2_with (go_at_call 23; refine (mix_any g A' (Y.take 128) c' wr H' (.slice A' Y.length c') h hH'.out (by simp; omega) (byt_take HY.out 128) (by omega) (HI.out.take 128) hr.out).mono ?_; rintro e w1 ⟨rfl, hs1, ht1⟩; have hc81 := hs1.left (by rw [mixF_len]; exact hH'.out); have hf81 := hs1.free 8; have HS1 := Lib.hid hs1; have HT1 := Lib.hid ht1; clear hs1 ht1)
            go_roundg (Y.length - 128)
            case measure => omega
            case rel =>
              refine ⟨mixF H' (Y.take 128), Y.drop 128, A'.map (·.add 128), c' - 128, HDL.out, by have := HDL.out; omega, by have := HDL.out; omega, Lib.hid (by rw [mixF_len]; exact hH'.out), Lib.hid ⟨by rw [← hEB.out.1]; exact hE'.out.1, trivial⟩, Lib.hid ?_, Lib.hid ((HI.out.tch HT1.out HNA.out).tail.put HNA.out.tail), Lib.hid HNA.out.tail, Lib.hid (byt_drop HY.out 128), Lib.hid ((ht.out.trans HT1.out.weaken).set 8 _)⟩
              rw [HDL.out]
              exact HS1.out.putLeft (by rw [mixF_len]; exact hH'.out) _
        · have HES := Lib.hid (And.intro (eatF_small H' (L := Y) (by omega)) trivial)
          go_wp2_with (go_at_call 24; refine (clone_any A' Y c' _ HI.out (by omega)).mono ?_; rintro e w8 ⟨v8, rfl, ho8, hb8⟩; obtain ⟨A8, c8, hv8, _, _⟩ := ho8.bv; subst hv8; have hs8 : St w8 g H' (.slice A' Y.length c') h := blk_below hr.out hb8; have hc88 := hs8.left hH'.out; have hf88 := hs8.free 8; have HS8 := Lib.hid hs8; have HO8 := Lib.hid ho8; have HT8 := Lib.hid (ht.out.below hb8); have HZ8 := Lib.hid ht.out.size; clear hs8 ho8 hb8 hc8)
          go_end0
          rw [← hE'.out.1, HES.out.1]
          refine ⟨HT8.out.set 8 _, _, rfl, HS8.out.putLeft hH'.out _, ?_⟩
          exact own_set (World.ownsRow.mono HO8.out HZ8.out) HS8.out (by decide) 8 _
end Go.Proofs.Ytkodmicocjklcaa
