/- The readers: NewReader, NewFrame, Left, Feed. -/
import Derived.Test.YtkcffggjggedjaaFrShape
import Derived.RowKit3
namespace Go.Proofs.Ytkcffggjggedjaa
open Go.RowKit

set_option maxHeartbeats 400000 in
theorem newReader_any (most : Int) (w : World) : Calls Try.prog 17 #[.int .i64 most] w fun e w' => e = .returned (.pointer (some ⟨w.heap.size, 0, none⟩)) ∧ w' = w.alloc (.cells #[.int .i64 most, .int .i64 0, .slice none 0 0, .bool false] 53) := by
  go_enter Try.func17, Try.ntmps17
  go_wp2
  go_ret
  exact ⟨rfl, rfl⟩
set_option maxHeartbeats 400000 in
theorem newFrame_any (most : Int) (w : World) : Calls Try.prog 18 #[.int .i64 most] w fun e w' => e = .returned (.pointer (some ⟨w.heap.size, 0, none⟩)) ∧ w' = w.alloc (.cells #[.slice none 0 0, .int .i64 0, .int .i64 most, .bool false] 55) := by
  go_enter Try.func18, Try.ntmps18
  go_wp2
  go_ret
  exact ⟨rfl, rfl⟩

/-! ### what a call may touch -/
/-- Of the blocks that were there, the call has written the reader's and its row's alone. -/
structure Tch (g : Nat) (vb : Option Nat) (w wr : World) : Prop where
  os : wr.os = w.os
  tape : wr.tape = w.tape
  output : wr.output = w.output
  size : w.heap.size ≤ wr.heap.size
  block : ∀ i, i < w.heap.size → i ≠ g → some i ≠ vb → wr.heap[i]? = w.heap[i]?
theorem Tch.refl (g : Nat) (vb : Option Nat) (w : World) : Tch g vb w w := ⟨rfl, rfl, rfl, Nat.le_refl _, fun _ _ _ _ => rfl⟩
theorem Tch.set {g : Nat} {vb : Option Nat} {w wr : World} (h : Tch g vb w wr) (i : Nat) (x : Value) : Tch g vb w (wr.setCell ⟨g, i, none⟩ x) :=
  ⟨h.os, h.tape, h.output, by have := h.size; simpa [World.setCell] using this, fun k hk hg hv => (heap_setCell_other wr ⟨g, i, none⟩ k x hg).trans (h.block k hk hg hv)⟩
theorem Tch.below {g : Nat} {vb : Option Nat} {w wr w1 : World} (h : Tch g vb w wr) (k : Below wr.heap.size wr w1) : Tch g vb w w1 :=
  ⟨k.os.trans h.os, k.tape.trans h.tape, k.output.trans h.output, Nat.le_trans h.size k.size, fun i hi hg hv => (k.block i (Nat.lt_of_lt_of_le hi h.size)).trans (h.block i hi hg hv)⟩
theorem Tch.grown {g : Nat} {vb row : Option Nat} {w wr w1 : World} (h : Tch g vb w wr) (k : wr.grownBy w1 row) (hr : row = vb ∨ ∀ n, row = some n → w.heap.size ≤ n) : Tch g vb w w1 :=
  ⟨k.os.trans h.os, k.tape.trans h.tape, k.output.trans h.output, Nat.le_trans h.size k.size, fun i hi hg hv => (k.block i (Nat.lt_of_lt_of_le hi h.size) (fun e => by
    rcases hr with rfl | hr
    · exact hv e
    · exact absurd (hr i e.symm) (by omega))).trans (h.block i hi hg hv)⟩
theorem Tch.toBelow {g n : Nat} {vb : Option Nat} {w wr : World} (h : Tch g vb w wr) (hn : n ≤ w.heap.size) (hg : n ≤ g) (hv : ∀ k, vb = some k → n ≤ k) : Below n w wr :=
  ⟨h.os, h.tape, h.output, h.size, fun i hi => h.block i (by omega) (by omega) (fun e => by have := hv i e.symm; omega)⟩
def World.bare (w : World) : World := { w with heap := #[] }
theorem below_bare (w : World) : Below (World.bare w).heap.size (World.bare w) w := ⟨rfl, rfl, rfl, Nat.zero_le _, fun i hi => absurd hi (Nat.not_lt_zero i)⟩
theorem own_ne {w : World} {b e s n : Nat} {v : Value} {xs : List Value} (h : w.ownsRow b e s v n xs) {g : Nat} {cs : Array Value} {t : TypeId} {q : Nat × Nat} (hg : w.heap[g]? = some (.cells cs t q)) (ht : e ≠ t) : v.ownBlock ≠ some g := by
  rcases h.2 with ⟨rfl, _⟩ | ⟨g', cap, cur, rfl, _, hh, _⟩
  · simp [Value.ownBlock]
  · intro he
    have : g' = g := by simpa [Value.ownBlock] using he
    subst this
    rw [hh] at hg
    simp only [Option.some.injEq, Obj.cells.injEq] at hg
    exact ht hg.2.1
theorem grown_set (w : World) (g i : Nat) (x : Value) : w.grownBy (w.setCell ⟨g, i, none⟩ x) (some g) :=
  ⟨rfl, rfl, rfl, by simp [World.setCell], fun k _ hk => heap_setCell_other w ⟨g, i, none⟩ k x (fun e => hk (by simp [e]))⟩
theorem own_set {w : World} {b e s n : Nat} {v : Value} {xs : List Value} (h : w.ownsRow b e s v n xs) {g : Nat} {cs : Array Value} {t : TypeId} {q : Nat × Nat} (hg : w.heap[g]? = some (.cells cs t q)) (ht : e ≠ t) (i : Nat) (x : Value) : (w.setCell ⟨g, i, none⟩ x).ownsRow b e s v n xs :=
  h.kept (grown_set w g i x) (.inr (own_ne h hg ht))
theorem blk_put {w : World} {g : Nat} {cs : Array Value} {t : TypeId} (h : w.heap[g]? = some (.cells cs t)) (i : Nat) (x : Value) : (w.setCell ⟨g, i, none⟩ x).heap[g]? = some (.cells (cs.setIfInBounds i x) t) := heap_setCell_same w g i cs t x h
/-- A list of rows, all the call's own, the elements' rows in blocks below 'mid'. -/
def OwnM (w : World) (base mid : Nat) (v : Value) (ls : List (List Int)) : Prop :=
  ∃ vs : List Value, vs.length = ls.length ∧ w.ownsRow base 23 1 v ls.length vs ∧ ∀ j, j < ls.length → OwnB w base (vs.getD j (.bool false)) (ls.getD j []) ∧ ∀ k, (vs.getD j (.bool false)).ownBlock = some k → k < mid
theorem OwnE.mid {w : World} {base : Nat} {v : Value} {ls : List (List Int)} (h : OwnE w base v ls) : OwnM w base w.heap.size v ls := by
  obtain ⟨vs, h1, h2, h3⟩ := h
  exact ⟨vs, h1, h2, fun j hj => ⟨h3 j hj, fun k hk => (World.ownsRow.lt (h3 j hj) k hk).2⟩⟩
theorem OwnM.below {w w1 : World} {base mid : Nat} {v : Value} {ls : List (List Int)} (h : OwnM w base mid v ls) (hb : Below w.heap.size w w1) : OwnM w1 base mid v ls := by
  obtain ⟨vs, h1, h2, h3⟩ := h
  exact ⟨vs, h1, own_below h2 hb, fun j hj => ⟨own_below (h3 j hj).1 hb, (h3 j hj).2⟩⟩
theorem OwnM.mono {w : World} {base base' mid : Nat} {v : Value} {ls : List (List Int)} (h : OwnM w base mid v ls) (hb : base' ≤ base) : OwnM w base' mid v ls := by
  obtain ⟨vs, h1, h2, h3⟩ := h
  exact ⟨vs, h1, World.ownsRow.mono h2 hb, fun j hj => ⟨World.ownsRow.mono (h3 j hj).1 hb, (h3 j hj).2⟩⟩
theorem OwnM.own {w : World} {base mid : Nat} {v : Value} {ls : List (List Int)} (h : OwnM w base mid v ls) : OwnE w base v ls := by
  obtain ⟨vs, h1, h2, h3⟩ := h
  exact ⟨vs, h1, h2, fun j hj => (h3 j hj).1⟩
theorem OwnM.set {w : World} {base mid : Nat} {v : Value} {ls : List (List Int)} (h : OwnM w base mid v ls) {g : Nat} {cs : Array Value} {t : TypeId} {q : Nat × Nat} (hg : w.heap[g]? = some (.cells cs t q)) (h1 : 23 ≠ t) (h2 : 5 ≠ t) (i : Nat) (x : Value) : OwnM (w.setCell ⟨g, i, none⟩ x) base mid v ls := by
  obtain ⟨vs, k1, k2, k3⟩ := h
  exact ⟨vs, k1, own_set k2 hg h1 i x, fun j hj => ⟨own_set (k3 j hj).1 hg h2 i x, (k3 j hj).2⟩⟩

theorem Ints.tail {w : World} {A : Option Addr} {c n : Nat} {l : List Int} (h : Ints .u8 w A l) (_ : l.length ≤ c) (_ : n ≤ l.length) (_ : c ≠ n) : Ints .u8 w (A.map (·.add n)) (l.drop n) := fun hne => by
  have hp : n < l.length := by
    rcases Nat.lt_or_ge n l.length with h | h
    · exact h
    · exact absurd (List.drop_eq_nil_of_le h) hne
  obtain ⟨b, off, rfl, hx⟩ := h (by intro h; rw [h] at hp; simp at hp)
  refine ⟨b, off + n, by simp [Addr.add_lit], fun j hj => ?_⟩
  rw [List.length_drop] at hj
  rw [Nat.add_assoc, hx (n + j) (by omega)]
  simp [List.getD_eq_getElem?_getD]

/-! ### sums -/
def tot (ls : List (List Int)) : Nat := (ls.map List.length).sum
theorem tot_cons (x : List Int) (ls : List (List Int)) : tot (x :: ls) = x.length + tot ls := by simp [tot]
theorem flat_len (ls : List (List Int)) : ls.flatten.length = tot ls := by simp [tot, List.length_flatten]
theorem byt_flat {ls : List (List Int)} (h : ∀ l ∈ ls, Byt l) : Byt ls.flatten := fun x hx => by
  obtain ⟨l, h1, h2⟩ := List.mem_flatten.1 hx
  exact h l h1 x h2
theorem byt_app {a b : List Int} (ha : Byt a) (hb : Byt b) : Byt (a ++ b) := fun x hx => by
  rcases List.mem_append.1 hx with h | h
  · exact ha x h
  · exact hb x h

/-! ### Feed -/
/-- What a reader holds. -/
def RdA (w : World) (g : Nat) (most had : Int) (v : Value) (over : Bool) : Prop := w.heap[g]? = some (.cells #[.int .i64 most, .int .i64 had, v, .bool over] 53)
def RdB (w : World) (g : Nat) (most had : Int) (v : Value) (over : Bool) : Prop := w.heap[g]? = some (.cells #[v, .int .i64 had, .int .i64 most, .bool over] 55)
/-- What a feeding call tells: beyond the limit nothing; else what became whole. -/
def Fed (Rd : World → Nat → Int → Int → Value → Bool → Prop) (g : Nat) (most had : Int) (v : Value) (b : List Int) (over : Bool) (ls : List (List Int)) (w : World) (e : Ending) (w' : World) : Prop :=
  Tch g v.ownBlock w w' ∧
  if over = true ∨ most < had + tot ls then e = .returned (.tuple #[.slice none 0 0, .int .i64 13]) ∧ Rd w' g most (had + tot ls) (.slice none 0 0) true
  else ∃ (vo v' : Value) (mid : Nat), e = .returned (.tuple #[vo, .int .i64 0]) ∧ Rd w' g most (had + tot ls) v' false ∧ w.heap.size ≤ mid ∧ mid ≤ w'.heap.size ∧
    OwnB w' mid v' ((b ++ ls.flatten).drop (takeR (b ++ ls.flatten)).2) ∧ OwnM w' w.heap.size mid vo (takeR (b ++ ls.flatten)).1


set_option maxHeartbeats 2000000 in
theorem feed_over (g : Nat) (most had : Int) (v : Value) (over : Bool) (A : Option Addr) (ls : List (List Int)) (c : Nat) (w : World) (hl : ls.length ≤ 1000000) (h0 : 0 ≤ had) (hH : had + tot ls ≤ 4611686018427387904)
    (hg : RdA w g most had v over) (hA : ∀ wr, Tch g v.ownBlock w wr → Rows wr A ls) (ho : over = true ∨ most < had + tot ls) :
    Calls Try.prog 19 #[.pointer (some ⟨g, 0, none⟩), .slice A ls.length c] w fun e w' => Tch g v.ownBlock w w' ∧ e = .returned (.tuple #[.slice none 0 0, .int .i64 13]) ∧ RdA w' g most (had + tot ls) (.slice none 0 0) true := by
  have HA := Lib.hid hA
  have HG := Lib.hid hg
  have HO := Lib.hid ho
  clear hA hg ho
  generalize hh : had + (tot ls : Int) = H at hH HO ⊢
  have HH := Lib.hid hh
  clear hh
  go_enter Try.func19, Try.ntmps19
  go_wp2
  go_loopw [14] (fun vi wr => ∃ (k : Nat) (h : Int), k ≤ ls.length ∧ 0 ≤ h ∧ vi = .int .i64 k ∧ Hid (h + (tot (ls.drop k) : Int) = H) ∧ Hid (RdA wr g most h v over) ∧ Hid (Tch g v.ownBlock w wr)) (fun vi _ => ls.length - (intOf vi).toNat)
  case atStart => exact ⟨0, had, by omega, h0, rfl, HH, HG, Tch.refl _ _ _⟩
  case round =>
    obtain ⟨k, h, hk, hh0, rfl, hs, hr, ht⟩ := hrel
    have hhad : wr.cell? ⟨g, 1, none⟩ = some (.int .i64 h) := by rw [cell_of_row wr g 1 _ _ (0, 0) hr.out]; rfl
    have hfr : wr.frozen? ⟨g, 1, none⟩ = false := blk_free hr.out 1
    by_cases hlt : k < ls.length
    · obtain ⟨b1, o1, A', c', rfl, hc, _, _⟩ := (HA.out wr ht.out).look hlt
      have hd : tot (ls.drop k) = (ls.getD k []).length + tot (ls.drop (k + 1)) := by rw [drop_get [] ls hlt, tot_cons]
      have hs2 := hs.out
      rw [hd] at hs2
      generalize ls.getD k [] = x at hc hd hs2
      have hx : h + (x.length : Int) ≤ 4611686018427387904 := by omega
      have HD := Lib.hid hd
      have HS2 := Lib.hid hs2
      clear hd hs2
      go_wp2
      go_roundw
      case rel => exact ⟨k + 1, h + x.length, by omega, by omega, by go_num, Lib.hid (by have := HS2.out; omega), Lib.hid (blk_put hr.out 1 _), Lib.hid (ht.out.set 1 _)⟩
      case measure => simp [intOf]; omega
    · obtain rfl : k = ls.length := by omega
      have hH1 : h = H := by have := hs.out; rw [List.drop_eq_nil_of_le (Nat.le_refl _)] at this; simpa [tot] using this
      subst hH1
      have hc0 : wr.cell? ⟨g, 0, none⟩ = some (.int .i64 most) := by rw [cell_of_row wr g 0 _ _ (0, 0) hr.out]; rfl
      have hc3 : wr.cell? ⟨g, 3, none⟩ = some (.bool over) := by rw [cell_of_row wr g 3 _ _ (0, 0) hr.out]; rfl
      have hc2 : wr.cell? ⟨g, 2, none⟩ = some v := by rw [cell_of_row wr g 2 _ _ (0, 0) hr.out]; rfl
      have hf2 : wr.frozen? ⟨g, 2, none⟩ = false := blk_free hr.out 2
      have hf3 : wr.frozen? ⟨g, 3, none⟩ = false := blk_free hr.out 3
      rcases over with _ | _
      · have hm : most < h := by simpa using HO.out
        go_wp2
        go_quiet (fail)
        go_wp2
        go_ret2
        exact ⟨((ht.out.below (below_drewN (Below.refl _ _) nq)).set 3 _).set 2 _, rfl, blk_put (blk_put (w := wr.drewN nq) hr.out 3 (.bool true)) 2 (.slice none 0 0)⟩
      · go_wp2
        go_quiet (fail)
        go_wp2
        go_ret2
        exact ⟨((ht.out.below (below_drewN (Below.refl _ _) nq)).set 3 _).set 2 _, rfl, blk_put (blk_put (w := wr.drewN nq) hr.out 3 (.bool true)) 2 (.slice none 0 0)⟩

set_option maxHeartbeats 800000 in
theorem feed_ok (g : Nat) (most had : Int) (v : Value) (b : List Int) (A : Option Addr) (ls : List (List Int)) (c : Nat) (w : World) (hl : ls.length ≤ 1000000) (h0 : 0 ≤ had) (hH : had + tot ls ≤ 4611686018427387904)
    (hsz : b.length + tot ls ≤ 268435456) (hg : RdA w g most had v false) (hv : OwnB w 0 v b) (hyb : Byt b) (hyl : ∀ l ∈ ls, Byt l) (hA : ∀ wr, Tch g v.ownBlock w wr → Rows wr A ls) (ho : had + tot ls ≤ most) :
    Calls Try.prog 19 #[.pointer (some ⟨g, 0, none⟩), .slice A ls.length c] w fun e w' => Tch g v.ownBlock w w' ∧ ∃ (vo v' : Value) (mid : Nat), e = .returned (.tuple #[vo, .int .i64 0]) ∧ RdA w' g most (had + tot ls) v' false ∧ w.heap.size ≤ mid ∧ mid ≤ w'.heap.size ∧
    OwnB w' mid v' ((b ++ ls.flatten).drop (takeR (b ++ ls.flatten)).2) ∧ OwnM w' w.heap.size mid vo (takeR (b ++ ls.flatten)).1 := by
  obtain ⟨i0, hi, hz0, hz1, hz2⟩ := info_parts (show (Try.prog.info? 5).map (fun i => (i.zero, i.size, i.bytes)) = some (some (.int .u8 0), 1, 1) by kernel_rfl)
  have HA := Lib.hid hA
  have HG := Lib.hid hg
  have HV := Lib.hid hv
  have hX : (b ++ ls.flatten).length ≤ 268435456 := by rw [List.length_append, flat_len]; exact hsz
  have HY := Lib.hid (byt_app hyb (byt_flat hyl))
  have HTL := Lib.hid (takeR_le _ (b ++ ls.flatten) (Nat.le_refl _)).1
  generalize hx : b ++ ls.flatten = X at hX HY HTL ⊢
  have HX := Lib.hid hx
  clear hA hg hv hyb hyl hx hsz
  generalize hh : had + (tot ls : Int) = H at hH ho ⊢
  have HH := Lib.hid hh
  clear hh
  go_enter Try.func19, Try.ntmps19
  go_wp2
  go_loopw [14] (fun vi wr => ∃ (k : Nat) (h : Int), k ≤ ls.length ∧ 0 ≤ h ∧ vi = .int .i64 k ∧ Hid (h + (tot (ls.drop k) : Int) = H) ∧ Hid (RdA wr g most h v false) ∧ Hid (OwnB wr 0 v b) ∧ Hid (Tch g v.ownBlock w wr)) (fun vi _ => ls.length - (intOf vi).toNat)
  case atStart => exact ⟨0, had, by omega, h0, rfl, HH, HG, HV, Tch.refl _ _ _⟩
  case round =>
    obtain ⟨k, h, hk, hh0, rfl, hs, hr, hv, ht⟩ := hrel
    have hhad : wr.cell? ⟨g, 1, none⟩ = some (.int .i64 h) := by rw [cell_of_row wr g 1 _ _ (0, 0) hr.out]; rfl
    have hfr : wr.frozen? ⟨g, 1, none⟩ = false := blk_free hr.out 1
    by_cases hlt : k < ls.length
    · obtain ⟨b1, o1, A', c', rfl, hc, _, _⟩ := (HA.out wr ht.out).look hlt
      have hd : tot (ls.drop k) = (ls.getD k []).length + tot (ls.drop (k + 1)) := by rw [drop_get [] ls hlt, tot_cons]
      have hs2 := hs.out
      rw [hd] at hs2
      generalize ls.getD k [] = x at hc hd hs2
      have hx : h + (x.length : Int) ≤ 4611686018427387904 := by omega
      have HS2 := Lib.hid hs2
      clear hd hs2
      go_wp2
      go_roundw
      case rel => exact ⟨k + 1, h + x.length, by omega, by omega, by go_num, Lib.hid (by have := HS2.out; omega), Lib.hid (blk_put hr.out 1 _), Lib.hid (own_set hv.out hr.out (by decide) 1 _), Lib.hid (ht.out.set 1 _)⟩
      case measure => simp [intOf]; omega
    · obtain rfl : k = ls.length := by omega
      have hH1 : h = H := by have := hs.out; rw [List.drop_eq_nil_of_le (Nat.le_refl _)] at this; simpa [tot] using this
      subst hH1
      have hc0 : wr.cell? ⟨g, 0, none⟩ = some (.int .i64 most) := by rw [cell_of_row wr g 0 _ _ (0, 0) hr.out]; rfl
      have hc3 : wr.cell? ⟨g, 3, none⟩ = some (.bool false) := by rw [cell_of_row wr g 3 _ _ (0, 0) hr.out]; rfl
      have HR2 := Lib.hid (show RdA (wr.drewN 0) g most h v false from hr.out)
      clear HG HV HH hs
      go_wp2
      go_quiet (fail)
      clear hc0 hc3 hhad hfr
      go_wp2
      have hr' := Lib.hid (show RdA (wr.drewN nq) g most h v false from hr.out)
      have hv' := Lib.hid (show OwnB (wr.drewN nq) 0 v b from own_below hv.out (below_drewN (Below.refl _ _) nq))
      have ht' := Lib.hid (ht.out.below (below_drewN (Below.refl _ _) nq))
      clear hr hv ht HR2
      generalize wr.drewN nq = wr at hr' hv' ht' ⊢
      go_loopw [51] (fun vi wq => ∃ (k : Nat) (L : List Int) (vr : Value), k ≤ ls.length ∧ vi = .int .i64 k ∧ Hid (L ++ (ls.drop k).flatten = X) ∧ Hid (RdA wq g most h vr false) ∧ Hid (OwnB wq 0 vr L) ∧ Hid (vr.ownBlock = v.ownBlock ∨ ∀ n, vr.ownBlock = some n → w.heap.size ≤ n) ∧ Hid (Tch g v.ownBlock w wq)) (fun vi _ => ls.length - (intOf vi).toNat)
      case atStart => exact ⟨0, b, v, by omega, rfl, HX, hr', hv', Lib.hid (.inl rfl), ht'⟩
      case round =>
        clear hr' hv' ht'
        obtain ⟨k, L, vr, hk, rfl, hX', hr, hv, hor, ht⟩ := hrel
        have hLX := congrArg List.length hX'.out
        by_cases hlt : k < ls.length
        · obtain ⟨b1, o1, A', c', hAe, hc, _, hi1⟩ := (HA.out _ ht.out).look hlt
          have hd := congrArg List.flatten (drop_get [] ls hlt)
          rw [List.flatten_cons] at hd
          have hX2 := hX'.out
          rw [hd] at hX2 hLX
          subst hAe
          generalize ls.getD k [] = x at hc hi1 hX2 hLX
          have hLx : L.length + x.length ≤ 268435456 := by simp at hLX; omega
          have HI := Lib.hid hi1
          have HX2 := Lib.hid hX2
          clear hd hX2 hLX hi1
          have hc2 : wr.cell? ⟨g, 2, none⟩ = some vr := by rw [cell_of_row _ g 2 _ _ (0, 0) hr.out]; rfl
          go_wp2_with (at_builtin; go_must (refine wp_append_src (w0 := World.bare wr) 0 1 1 (.tmp 59) (.tmp 60) 23 23 5 rfl rfl Try.underlying23 hi hz0 hz1 hz2 rfl (by decide) hv.out rfl (Ints.src (P := Try.prog) HI.out Try.underlying23 c') rfl (by unfold maxLen; omega) (by omega) (below_bare _) (Nat.zero_le _) (Nat.le_refl _) ?_); intro v1 w1 ho1 _ hg1 hor1; rw [ints_append] at ho1; obtain ⟨A1, c1, hv1, _⟩ := Ints.own ho1; rw [List.length_append] at hv1; subst hv1; have hr1 := blk_grown hr.out hg1 (own_ne hv.out hr.out (by decide)).symm; have ht1 := Lib.hid (ht.out.grown hg1 hor.out); have hsz1 := ht.out.size; have hor2 : (Value.slice A1 (L.length + x.length) c1).ownBlock = v.ownBlock ∨ ∀ n, (Value.slice A1 (L.length + x.length) c1).ownBlock = some n → w.heap.size ≤ n := (by rcases hor1 with h1 | h1; (rw [h1]; exact hor.out); (exact .inr (fun n hn => by rw [h1] at hn; simp at hn; omega))); have hc21 : w1.cell? ⟨g, 2, none⟩ = some vr := (by rw [cell_of_row _ g 2 _ _ (0, 0) hr1]; rfl); have hf21 : w1.frozen? ⟨g, 2, none⟩ = false := blk_free hr1 2; have HO1 := Lib.hid ho1; have HR1 := Lib.hid hr1; have HOR := Lib.hid hor2; clear ho1 hg1 hor1 hr1 hor2 hsz1)
          go_roundw
          case rel =>
            refine ⟨k + 1, L ++ x, .slice A1 (L.length + x.length) c1, by omega, by go_num, Lib.hid (by rw [← HX2.out]; simp), Lib.hid (blk_put HR1.out 2 _), Lib.hid ?_, HOR, Lib.hid (ht1.out.set 2 _)⟩
            have h1 := own_set HO1.out HR1.out (by decide) 2 (.slice A1 (L.length + x.length) c1)
            unfold OwnB
            simpa using h1
          case measure => simp [intOf]; omega
        · obtain rfl : k = ls.length := by omega
          have hXL : L = X := by have := hX'.out; rw [List.drop_eq_nil_of_le (Nat.le_refl _)] at this; simpa using this
          subst hXL
          obtain ⟨Ar, cr, hvr, hcr, hir⟩ := hv.out.bv
          subst hvr
          have HI := Lib.hid hir
          have hc2 : wr.cell? ⟨g, 2, none⟩ = some (.slice Ar L.length cr) := by rw [cell_of_row _ g 2 _ _ (0, 0) hr.out]; rfl
          have htl := HTL.out
          generalize htk : takeR L = T at htl ⊢
          obtain ⟨tl, tn⟩ := T
          have HTK := Lib.hid htk
          simp only at htl
          have hdl : (L.drop tn).length = L.length - tn := by simp
          clear htk hir hLX HX hX' HTL
          by_cases hcn : cr = tn
          · subst hcn
            have hdn := Lib.hid (show L.drop cr = [] from List.drop_eq_nil_of_le (by omega))
            go_wp2_with (first
              | (go_at_call 13; refine (take_any Ar L cr _ hX hcr HY.out HI.out).mono ?_; rw [HTK.out]; rintro e w7 ⟨v7, rfl, ho7, hb7⟩; have HO7 := Lib.hid ho7; have hr7 := blk_below hr.out hb7; have HR7 := Lib.hid hr7; have hc7 : w7.cell? ⟨g, 2, none⟩ = some (.slice Ar L.length cr) := (by rw [cell_of_row _ g 2 _ _ (0, 0) hr7]; rfl); have HI7 := Lib.hid (HI.out.below hb7); have HT7 := Lib.hid (ht.out.below hb7); have HS7 := Lib.hid hb7.size; clear ho7 hr7 hb7)
              | (go_at_call 24; refine (copyCut clone_any Ar [] _ 0 w7 w7 rfl (Ints.nil _ _ _) (by omega) (Nat.le_refl _)).mono ?_; rintro e w8 ⟨v8, rfl, ho8, hb8⟩; obtain ⟨A8, c8, hv8, _, _⟩ := ho8.bv; simp only [List.length_nil] at hv8; subst hv8; have hr8 := blk_below HR7.out hb8; have HR8 := Lib.hid hr8; have hc8 : w8.cell? ⟨g, 2, none⟩ = some (.slice Ar L.length cr) := (by rw [cell_of_row _ g 2 _ _ (0, 0) hr8]; rfl); have hf8 : w8.frozen? ⟨g, 2, none⟩ = false := blk_free hr8 2; have HO8 := Lib.hid ho8; have HT8 := Lib.hid (HT7.out.below hb8); have HS8 := Lib.hid hb8.size; have HM8 := Lib.hid (HO7.out.mid.below hb8); clear ho8 hr8 hb8))
            go_ret2
            have hss := ht.out.size
            rw [HTK.out]
            exact ⟨HT8.out.set 2 _, _, _, w7.heap.size, rfl, blk_put HR8.out 2 _, Nat.le_trans hss HS7.out, by have := HS8.out; simpa [World.setCell] using this, by show OwnB _ _ _ (L.drop cr); rw [hdn.out]; exact own_set HO8.out HR8.out (by decide) 2 _, (HM8.out.mono hss).set HR8.out (by decide) (by decide) 2 _⟩
          · have HCUT := Lib.hid (fun (W : World) (h : Ints .u8 W Ar L) => h.tail hcr htl hcn)
            go_wp2_with (first
              | (go_at_call 13; refine (take_any Ar L cr _ hX hcr HY.out HI.out).mono ?_; rw [HTK.out]; rintro e w7 ⟨v7, rfl, ho7, hb7⟩; have HO7 := Lib.hid ho7; have hr7 := blk_below hr.out hb7; have HR7 := Lib.hid hr7; have hc7 : w7.cell? ⟨g, 2, none⟩ = some (.slice Ar L.length cr) := (by rw [cell_of_row _ g 2 _ _ (0, 0) hr7]; rfl); have HI7 := Lib.hid (HI.out.below hb7); have HT7 := Lib.hid (ht.out.below hb7); have HS7 := Lib.hid hb7.size; clear ho7 hr7 hb7)
              | (go_at_call 24; refine (copyCut clone_any (Ar.map (·.add tn)) (L.drop tn) _ (L.length - tn) w7 w7 hdl (HCUT.out w7 HI7.out) (by omega) (Nat.le_refl _)).mono ?_; rintro e w8 ⟨v8, rfl, ho8, hb8⟩; obtain ⟨A8, c8, hv8, _, _⟩ := ho8.bv; rw [hdl] at hv8; subst hv8; have hr8 := blk_below HR7.out hb8; have HR8 := Lib.hid hr8; have hc8 : w8.cell? ⟨g, 2, none⟩ = some (.slice Ar L.length cr) := (by rw [cell_of_row _ g 2 _ _ (0, 0) hr8]; rfl); have hf8 : w8.frozen? ⟨g, 2, none⟩ = false := blk_free hr8 2; have HO8 := Lib.hid ho8; have HT8 := Lib.hid (HT7.out.below hb8); have HS8 := Lib.hid hb8.size; have HM8 := Lib.hid (HO7.out.mid.below hb8); clear ho8 hr8 hb8))
            go_ret2
            have hss := ht.out.size
            rw [HTK.out]
            exact ⟨HT8.out.set 2 _, _, _, w7.heap.size, rfl, blk_put HR8.out 2 _, Nat.le_trans hss HS7.out, by have := HS8.out; simpa [World.setCell] using this, own_set HO8.out HR8.out (by decide) 2 _, (HM8.out.mono hss).set HR8.out (by decide) (by decide) 2 _⟩
end Go.Proofs.Ytkcffggjggedjaa
