/- The state of a digest: what lies in it; the plain functions of a block. -/
import Derived.Test.YtkodmicocjklcaaShWords
import Derived.Deep.MidRow
namespace Go.Proofs.Ytkodmicocjklcaa
open Go.RowKit

/-! ### what a call may touch -/
/-- Of the blocks that were there, the call has written two alone. -/
structure Tch (g : Nat) (vb : Option Nat) (w wr : World) : Prop where
  os : wr.os = w.os
  tape : wr.tape = w.tape
  output : wr.output = w.output
  size : w.heap.size ≤ wr.heap.size
  block : ∀ i, i < w.heap.size → i ≠ g → some i ≠ vb → wr.heap[i]? = w.heap[i]?
theorem Tch.refl (g : Nat) (vb : Option Nat) (w : World) : Tch g vb w w := ⟨rfl, rfl, rfl, Nat.le_refl _, fun _ _ _ _ => rfl⟩
theorem Tch.set {g : Nat} {vb : Option Nat} {w wr : World} (h : Tch g vb w wr) (i : Nat) (x : Value) : Tch g vb w (wr.setCell ⟨g, i, none⟩ x) :=
  ⟨h.os, h.tape, h.output, by have := h.size; simpa [World.setCell] using this, fun k hk hg hv => (heap_setCell_other wr ⟨g, i, none⟩ k x hg).trans (h.block k hk hg hv)⟩
theorem Tch.below {g : Nat} {vb : Option Nat} {w wr w1 : World} (h : Tch g vb w wr) (k : Below wr.heap.size wr w1) : Tch g vb w w1 :=
  ⟨k.os.trans h.os, k.tape.trans h.tape, k.output.trans h.output, Nat.le_trans h.size k.size, fun i hi hg hv => (k.block i (Nat.lt_of_lt_of_le hi h.size)).trans (h.block i hi hg hv)⟩
theorem Tch.ofBelow {g : Nat} {vb : Option Nat} {w w1 : World} (k : Below w.heap.size w w1) : Tch g vb w w1 := (Tch.refl g vb w).below k
theorem Tch.belowMore {g : Nat} {vb : Option Nat} {w wr w1 : World} (h : Tch g vb w wr) (k : Below w.heap.size wr w1) : Tch g vb w w1 :=
  ⟨k.os.trans h.os, k.tape.trans h.tape, k.output.trans h.output, Nat.le_trans h.size k.size, fun i hi hg hv => (k.block i hi).trans (h.block i hi hg hv)⟩
theorem Tch.grown {g : Nat} {vb row : Option Nat} {w wr w1 : World} (h : Tch g vb w wr) (k : wr.grownBy w1 row) (hr : row = vb ∨ ∀ n, row = some n → w.heap.size ≤ n) : Tch g vb w w1 :=
  ⟨k.os.trans h.os, k.tape.trans h.tape, k.output.trans h.output, Nat.le_trans h.size k.size, fun i hi hg hv => (k.block i (Nat.lt_of_lt_of_le hi h.size) (fun e => by
    rcases hr with rfl | hr
    · exact hv e
    · exact absurd (hr i e.symm) (by omega))).trans (h.block i hi hg hv)⟩
theorem Tch.trans {g : Nat} {vb : Option Nat} {w wr w1 : World} (h : Tch g vb w wr) (k : Tch g vb wr w1) : Tch g vb w w1 :=
  ⟨k.os.trans h.os, k.tape.trans h.tape, k.output.trans h.output, Nat.le_trans h.size k.size, fun i hi hg hv => (k.block i (Nat.lt_of_lt_of_le hi h.size) hg hv).trans (h.block i hi hg hv)⟩
theorem Tch.weaken {g : Nat} {vb : Option Nat} {w wr : World} (h : Tch g none w wr) : Tch g vb w wr := ⟨h.os, h.tape, h.output, h.size, fun i hi hg _ => h.block i hi hg (by simp)⟩
theorem Tch.toBelow {g n : Nat} {vb : Option Nat} {w wr : World} (h : Tch g vb w wr) (hn : n ≤ w.heap.size) (hg : n ≤ g) (hv : ∀ k, vb = some k → n ≤ k) : Below n w wr :=
  ⟨h.os, h.tape, h.output, h.size, fun i hi => h.block i (by omega) (by omega) (fun e => by have := hv i e.symm; omega)⟩

/-! ### the state -/
def stCells (H : List (BitVec 64)) (left : Value) (n : Int) : Array Value := (us H ++ [left, .int .i64 n]).toArray
/-- What a state holds. -/
def St (w : World) (g : Nat) (H : List (BitVec 64)) (left : Value) (n : Int) : Prop := w.heap[g]? = some (.cells (stCells H left n) 47)
theorem St.word {w : World} {g : Nat} {H : List (BitVec 64)} {left : Value} {n : Int} (h : St w g H left n) (i : Nat) (hi : i < H.length) : w.cell? ⟨g, i, none⟩ = some (.int .u64 ((H.getD i 0).toNat : Int)) := by
  rw [cell_of_row w g i _ _ _ h]
  simp [stCells, us, U, hi, List.getD_eq_getElem?_getD, List.getElem?_append]
theorem St.left {w : World} {g : Nat} {H : List (BitVec 64)} {left : Value} {n : Int} (h : St w g H left n) (hH : H.length = 8) : w.cell? ⟨g, 8, none⟩ = some left := by
  rw [cell_of_row w g 8 _ _ _ h]
  simp [stCells, us, hH, List.getElem?_append]
theorem St.count {w : World} {g : Nat} {H : List (BitVec 64)} {left : Value} {n : Int} (h : St w g H left n) (hH : H.length = 8) : w.cell? ⟨g, 9, none⟩ = some (.int .i64 n) := by
  rw [cell_of_row w g 9 _ _ _ h]
  simp [stCells, us, hH, List.getElem?_append]
theorem St.free {w : World} {g : Nat} {H : List (BitVec 64)} {left : Value} {n : Int} (h : St w g H left n) (i : Nat) : w.frozen? ⟨g, i, none⟩ = false := blk_free h i
theorem St.putWord {w : World} {g : Nat} {H : List (BitVec 64)} {left : Value} {n : Int} (h : St w g H left n) (i : Nat) (hi : i < H.length) (e : Int) (x : BitVec 64) (he : e = (x.toNat : Int)) : St (w.setCell ⟨g, i, none⟩ (.int .u64 e)) g (H.set i x) left n := by
  subst he
  unfold St at h ⊢
  simp [World.setCell, Array.getElem?_modify, h, stCells, us, List.set_append, hi, List.map_set, U]
theorem St.putLeft {w : World} {g : Nat} {H : List (BitVec 64)} {left : Value} {n : Int} (h : St w g H left n) (hH : H.length = 8) (v : Value) : St (w.setCell ⟨g, 8, none⟩ v) g H v n := by
  unfold St at h ⊢
  simp [World.setCell, Array.getElem?_modify, h, stCells, us, List.set_append, hH]
theorem St.putCount {w : World} {g : Nat} {H : List (BitVec 64)} {left : Value} {n : Int} (h : St w g H left n) (hH : H.length = 8) (m : Int) : St (w.setCell ⟨g, 9, none⟩ (.int .i64 m)) g H left m := by
  unfold St at h ⊢
  simp [World.setCell, Array.getElem?_modify, h, stCells, us, List.set_append, hH]
theorem St.range {w : World} {g : Nat} {H : List (BitVec 64)} {left : Value} {n : Int} (h : St w g H left n) : w.rangeAt g 0 (us H) := fun j v hv => by
  rw [Nat.zero_add, cell_of_row w g j _ _ _ h]
  have hj : j < (us H).length := (List.getElem?_eq_some_iff.1 hv).1
  simp only [stCells, List.getElem?_toArray, List.getElem?_append, hj, if_true]
  exact hv

theorem quiet_any {P : Program} {f : FuncId} {args : Array Value} {w : World} {n : Nat} {v : Value}
    (h : Calls P f args (w.drewN n) fun e w' => e = .returned v ∧ w.drewN n = w') : Calls P f args (w.drewN n) fun e w'' => e = .returned v ∧ ∃ m, w'' = w.drewN m :=
  h.mono fun _ _ ⟨he, hm⟩ => ⟨he, n, hm.symm⟩
theorem below_drewN {B : Nat} {a w : World} (h : Below B a w) (n : Nat) : Below B a (w.drewN n) := h.trans ⟨rfl, rfl, rfl, Nat.le_refl _, fun _ _ => rfl⟩
theorem Tch.drewN {g : Nat} {vb : Option Nat} {w wr : World} (h : Tch g vb w wr) (n : Nat) : Tch g vb w (wr.drewN n) := h.below (below_drewN (Below.refl _ _) n)

/-! ### a block -/
def rnd (k w : BitVec 64) : List (BitVec 64) → List (BitVec 64)
  | [a, b, c, d, e, f, g, h] =>
    [h + (R 14 e ^^^ R 18 e ^^^ R 41 e) + ((e &&& f) ^^^ (~~~e &&& g)) + k + w + ((R 28 a ^^^ R 34 a ^^^ R 39 a) + (((a &&& b) ^^^ (a &&& c)) ^^^ (b &&& c))), a, b, c,
     d + (h + (R 14 e ^^^ R 18 e ^^^ R 41 e) + ((e &&& f) ^^^ (~~~e &&& g)) + k + w), e, f, g]
  | V => V
def mixV (W : List (BitVec 64)) : Nat → Nat → List (BitVec 64) → List (BitVec 64)
  | 0, _, V => V
  | n + 1, i, V => mixV W n (i + 1) (rnd (constL.getD i 0) (W.getD i 0) V)
def addV (V : List (BitVec 64)) : Nat → Nat → List (BitVec 64) → List (BitVec 64)
  | 0, _, H => H
  | n + 1, i, H => addV V n (i + 1) (H.set i (H.getD i 0 + V.getD i 0))
def mixF (H : List (BitVec 64)) (b : List Int) : List (BitVec 64) := addV (mixV (wordsF b) 80 0 H) 8 0 H
theorem rnd_len (k w : BitVec 64) (V : List (BitVec 64)) : (rnd k w V).length = V.length := by
  unfold rnd
  split <;> rfl
theorem mixV_len (W : List (BitVec 64)) : ∀ n i V, (mixV W n i V).length = V.length
  | 0, _, _ => rfl
  | n + 1, i, V => by rw [mixV, mixV_len W n, rnd_len]
theorem addV_len (V : List (BitVec 64)) : ∀ n i H, (addV V n i H).length = H.length
  | 0, _, _ => rfl
  | n + 1, i, H => by rw [addV, addV_len V n]; simp
theorem mixF_len (H : List (BitVec 64)) (b : List Int) : (mixF H b).length = H.length := addV_len _ _ _ _
theorem wordsF_len (b : List Int) : (wordsF b).length = 80 := by rw [wordsF, wExt_len, wOut_len, zerosB_len]
theorem constL_len : constL.length = 80 := rfl
theorem blk_setRow_far {w : World} {g k : Nat} {o : Obj} (h : w.heap[g]? = some o) (c : Array Value) (hk : g ≠ k) : (w.setRow k c).heap[g]? = some o := by
  simp [World.setRow, Array.getElem?_modify, h, show ¬ k = g from fun e => hk e.symm]
theorem Tch.setRow {g k : Nat} {vb : Option Nat} {w wr : World} (h : Tch g vb w wr) (hk : w.heap.size ≤ k) (c : Array Value) : Tch g vb w (wr.setRow k c) :=
  ⟨h.os, h.tape, h.output, by have := h.size; simpa [World.setRow] using this, fun i hi hg hv => by
    have := h.block i hi hg hv
    simpa [World.setRow, Array.getElem?_modify, show ¬ k = i by omega] using this⟩
/-- What lies in memory while a block is mixed in. -/
structure MixAt (w wr : World) (g g4 g5 gv : Nat) (H : List (BitVec 64)) (left : Value) (n : Int) (W V : List (BitVec 64)) : Prop where
  v : wr.heap[gv]? = some (.cells (us V).toArray 44)
  w4 : wr.heap[g4]? = some (.cells (us W).toArray 53)
  k5 : wr.heap[g5]? = some (.cells (us constL).toArray 53)
  st : St wr g H left n
  tch : Tch g none w wr
theorem MixAt.drewN {w wr : World} {g g4 g5 gv : Nat} {H : List (BitVec 64)} {left : Value} {n : Int} {W V : List (BitVec 64)} (h : MixAt w wr g g4 g5 gv H left n W V) (m : Nat) : MixAt w (wr.drewN m) g g4 g5 gv H left n W V :=
  ⟨h.v, h.w4, h.k5, h.st, h.tch.drewN m⟩
theorem MixAt.put {w wr : World} {g g4 g5 gv : Nat} {H : List (BitVec 64)} {left : Value} {n : Int} {W V : List (BitVec 64)} (h : MixAt w wr g g4 g5 gv H left n W V) (hg : w.heap.size ≤ gv) (h1 : g < w.heap.size) (h4 : g4 ≠ gv) (h5 : g5 ≠ gv) (c : Array Value) (X : List (BitVec 64)) (hc : c = (us X).toArray) :
    MixAt w (wr.setRow gv c) g g4 g5 gv H left n W X := by
  subst hc
  exact ⟨heap_setRow_same h.v _, blk_setRow_far h.w4 _ h4, blk_setRow_far h.k5 _ h5, blk_setRow_far h.st _ (by omega), h.tch.setRow hg _⟩
theorem MixAt.word {w wr : World} {g g4 g5 gv : Nat} {H : List (BitVec 64)} {left : Value} {n : Int} {W V : List (BitVec 64)} (h : MixAt w wr g g4 g5 gv H left n W V) (hg : g < w.heap.size) (h4 : w.heap.size ≤ g4) (h5 : w.heap.size ≤ g5) (hv : w.heap.size ≤ gv) (i : Nat) (hi : i < H.length) (e : Int) (x : BitVec 64) (he : e = (x.toNat : Int)) :
    MixAt w (wr.setCell ⟨g, i, none⟩ (.int .u64 e)) g g4 g5 gv (H.set i x) left n W V :=
  ⟨blk_set_far h.v (by simp; omega) _, blk_set_far h.w4 (by simp; omega) _, blk_set_far h.k5 (by simp; omega) _, h.st.putWord i hi e x he, h.tch.set i _⟩
def cells8 (a b c d e f g h : Int) : Array Value := #[.int .u64 a, .int .u64 b, .int .u64 c, .int .u64 d, .int .u64 e, .int .u64 f, .int .u64 g, .int .u64 h]
theorem cells8_one (a b c d e f g h : Int) : (cells8 a b c d e f g h).all (·.oneCell') = true := by simp [cells8, Value.oneCell']
theorem cells8_info (a b c d e f g h : Int) : (Try.prog.info? 44).map (·.size) = some (cells8 a b c d e f g h).size := by
  rw [show (cells8 a b c d e f g h).size = 8 from rfl]; kernel_rfl
theorem cells8_size (V : List (BitVec 64)) (hV : V.length = 8) (a b c d e f g h : Int) : (us V).toArray.size = (cells8 a b c d e f g h).size := by
  rw [show (cells8 a b c d e f g h).size = 8 from rfl]; simp [us, hV]
def zeros8 : Array Value := Array.replicate 8 (.int .u64 0)
theorem len8 {l : List (BitVec 64)} (h : l.length = 8) : ∃ a b c d e f g i, l = [a, b, c, d, e, f, g, i] := by
  match l, h with
  | [a, b, c, d, e, f, g, i], _ => exact ⟨a, b, c, d, e, f, g, i, rfl⟩
end Go.Proofs.Ytkodmicocjklcaa
