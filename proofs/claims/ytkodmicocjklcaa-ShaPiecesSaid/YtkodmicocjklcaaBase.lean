/- Words that the walks of this claim share: rows of bytes of the call's own, cuts of an array, what a walk keeps hidden. -/
import Derived.Test.YtkodmicocjklcaaChecked
import Derived.WalkKit
import Derived.Lib.Hide
import Derived.Lib.ConvBytes
import Derived.Deep.AppendSrc
import Derived.Laws.MakeOwn
import Derived.StillTailTactics
namespace Go.Proofs.Ytkodmicocjklcaa
open Go.RowKit

theorem below_then {w w1 w2 : World} (h : Below w.heap.size w w1) (k : Below w1.heap.size w1 w2) : Below w.heap.size w w2 :=
  h.trans ⟨k.os, k.tape, k.output, k.size, fun i hi => k.block i (Nat.lt_of_lt_of_le hi h.size)⟩

theorem below_bytes {w W : World} (h : Below w.heap.size w W) (e : TypeId) (s : ByteArray) : Below w.heap.size w (Lib.bytesWorld W e s) :=
  h.trans ⟨rfl, rfl, rfl, by rw [Lib.bytesWorld_size]; omega, fun i hi => Lib.bytesWorld_at_old W e s i (Nat.lt_of_lt_of_le hi h.size)⟩
theorem blk_below {w w1 : World} {g : Nat} {o : Obj} (h : w.heap[g]? = some o) (hb : Below w.heap.size w w1) : w1.heap[g]? = some o := (hb.block g (Array.getElem?_eq_some_iff.1 h).1).trans h
theorem blk_set_far {w : World} {g : Nat} {o : Obj} (h : w.heap[g]? = some o) {p : Addr} (hp : g ≠ p.block) (u : Value) : (w.setCell p u).heap[g]? = some o := (Below.heap_setCell w p u g hp).trans h

/-! ### rows of bytes in a block of the call's own -/
def u8s (l : List Int) : List Value := l.map (Value.int .u8)
theorem u8s_len (l : List Int) : (u8s l).length = l.length := by simp [u8s]
theorem u8s_set (l : List Int) (i : Nat) (x : Int) : (u8s l).set i (.int .u8 x) = u8s (l.set i x) := by simp [u8s, List.map_set]
theorem u8s_get (l : List Int) (i : Nat) (h : i < l.length) : (u8s l)[i]? = some (.int .u8 (l.getD i 0)) := by simp [u8s, h, List.getD_eq_getElem?_getD]
theorem u8s_cell {w : World} {g : Nat} {l : List Int} {t : TypeId} (h : w.heap[g]? = some (.cells (u8s l).toArray t)) (i : Nat) (hi : i < l.length) : w.cell? ⟨g, i, none⟩ = some (.int .u8 (l.getD i 0)) := by
  rw [cell_of_row w g i _ t _ h]; simpa using u8s_get l i hi
theorem blk_free {w : World} {g : Nat} {cs : Array Value} {t : TypeId} (h : w.heap[g]? = some (.cells cs t)) (i : Nat) : w.frozen? ⟨g, i, none⟩ = false := by simp [World.frozen?, h]
theorem u8s_put {w : World} {g : Nat} {l : List Int} {t : TypeId} (h : w.heap[g]? = some (.cells (u8s l).toArray t)) (i : Nat) (x : Int) : (w.setCell ⟨g, i, none⟩ (.int .u8 x)).heap[g]? = some (.cells (u8s (l.set i x)).toArray t) := by
  simp [World.setCell, Array.getElem?_modify, h, ← u8s_set]

/-! ### a cut of an array -/
theorem run_sliceAt_arr_h {P : Program} (w : World) (t e : TypeId) (n s : Nat) (ht : P.underlying t = some (.array n e)) (hs : ∀ w, (sizeOf e).run P w = .ok s w) (a : Addr) (kh : IntKind) (h : Int) (h0 : 0 ≤ h) (h2 : h ≤ n) :
    (Instr.sliceAt t (.pointer (some a)) none (some (.int kh h)) none).run P w = .ok (.slice (some a) h.toNat n) w := by
  simp [Instr.sliceAt, run_underlying ht, Instr.sliceBounds, run_sliceBound, Instr.sureAddr, hs, h0, h2, Result.andThen]
  simp [Addr.add]

/-! ### a slice of whole numbers that is read -/

def ints (k : IntKind) (l : List Int) : List Value := l.map (Value.int k)
def Ints (k : IntKind) (w : World) (A : Option Addr) (xs : List Int) : Prop :=
  xs ≠ [] → ∃ b off, A = some ⟨b, off, none⟩ ∧ ∀ j, j < xs.length → w.cell? ⟨b, off + j, none⟩ = some (.int k (xs.getD j 0))
theorem Ints.below {k : IntKind} {w w1 : World} {A : Option Addr} {xs : List Int} (h : Ints k w A xs) (hb : Below w.heap.size w w1) : Ints k w1 A xs := fun hn => by
  obtain ⟨b, off, rfl, hc⟩ := h hn
  exact ⟨b, off, rfl, fun j hj => (hb.cell (World.block_lt_of_cell? w _ (hc j hj))).trans (hc j hj)⟩
theorem Ints.head {k : IntKind} {w : World} {A : Option Addr} {xs : List Int} (h : Ints k w A xs) (hn : xs ≠ []) : ∃ b off, A = some ⟨b, off, none⟩ ∧ w.cell? ⟨b, off, none⟩ = some (.int k (xs.getD 0 0)) := by
  obtain ⟨b, off, rfl, hc⟩ := h hn
  exact ⟨b, off, rfl, hc 0 (List.length_pos_iff.2 hn)⟩
theorem ints_of_row {k : IntKind} {w : World} {a : Option Addr} {len cap : Nat} {zs : List Int} (h : (a = none ∧ len = 0 ∧ cap = 0 ∧ zs = []) ∨
    ∃ x, a = some x ∧ len ≤ cap ∧ cap ≤ maxLen ∧ zs.length = cap ∧ (∀ i, i < zs.length → w.cell? (x.add i) = some (.int k (zs.getD i 0))) ∧ ∀ n ∈ zs, (Lit.int k n).wf = true) :
    ∃ l : List Int, len = l.length ∧ l.length ≤ maxLen ∧ Ints k w a l ∧ ∀ x ∈ l, (Lit.int k x).wf = true := by
  rcases h with ⟨rfl, rfl, _, _⟩ | ⟨x, rfl, hl, hc, hz, hcell, hwf⟩
  · exact ⟨[], rfl, by unfold maxLen; simp, fun h => absurd rfl h, fun x hx => by simp at hx⟩
  · refine ⟨zs.take len, by rw [List.length_take]; omega, by rw [List.length_take]; omega, fun hn => ?_, fun n hn => hwf n (List.mem_of_mem_take hn)⟩
    have hp : 0 < len := by
      rcases Nat.eq_zero_or_pos len with h | h
      · subst h; simp at hn
      · exact h
    obtain ⟨b, off, spot⟩ := x
    have h0 := hcell 0 (by omega)
    have hs : spot = none := by
      cases spot with
      | none => rfl
      | some s => simp [World.cell?, Addr.add] at h0; split at h0 <;> simp at h0
    subst hs
    refine ⟨b, off, rfl, fun j hj => ?_⟩
    rw [List.length_take] at hj
    have hc1 := hcell j (by omega)
    rw [Addr.add_lit] at hc1
    rw [hc1]
    simp [List.getD_eq_getElem?_getD, show j < len by omega]
theorem ints_append (k : IntKind) (a b : List Int) : ints k a ++ ints k b = ints k (a ++ b) := by simp [ints]
theorem ints_lit (w : World) (k : IntKind) (t : TypeId) (l : List Int) : Ints k (w.alloc (.cells (l.map (Value.int k)).toArray t)) (some ⟨w.heap.size, 0, none⟩) l := fun _ => by
  refine ⟨w.heap.size, 0, rfl, fun j hj => ?_⟩
  rw [cell_of_row _ _ _ _ t (0, 0) (heap_alloc_new w _)]
  simp [hj, List.getD_eq_getElem?_getD]
theorem Ints.nil (k : IntKind) (w : World) (A : Option Addr) : Ints k w A [] := fun h => absurd rfl h

/-! ### make -/
theorem run_make_ints {P : Program} (W : World) (t e : TypeId) (k : IntKind) (bytes : Nat) (ht : P.underlying t = some (.slice e)) {i : TypeInfo} (hi : P.info? e = some i) (hz : i.zero = some (.int k 0)) (hs : i.size = 1) (hb : i.bytes = bytes)
    (m : Nat) (hm : bytes * m ≤ 281474976710656) (h63 : m ≤ 281474976710656) :
    (Instr.makeSlice t (.int .i64 (m : Int)) (.int .i64 (m : Int))).run P W = .ok (.slice (some ⟨W.heap.size, 0, none⟩) m m) (W.alloc (.cells (ints k (List.replicate m 0)).toArray e)) := by
  have hbm : (bytes : Int) * (m : Int) ≤ 281474976710656 := by
    have h : ((bytes * m : Nat) : Int) ≤ 281474976710656 := by omega
    rwa [Int.natCast_mul] at h
  have hr := run_make (P := P) W t e i (.int k 0) ht hi hz .i64 .i64 m m (by omega) (by omega) (by rw [hb]; exact hbm) (by omega)
  rw [hr, hs, Int.toNat_natCast, Nat.mul_one]
  have e : madeCells (Value.int k 0).cells m = (ints k (List.replicate m 0)).toArray := by
    apply Array.ext
    · simp [madeCells, ints]
    · intro i h1 h2
      simp [madeCells, ints, Value.cells, Nat.mod_one]
  rw [e]

/-! ### append onto a row of the call's own, whatever is appended -/
section
variable {P : Program}
theorem zeroCells_len (z : Array Value) (n : Nat) : (Builtin.zeroCells z n).size = n * z.size := by simp [Builtin.zeroCells]
def putAll : List Value → Nat → Array Value → Array Value
  | [], _, cur => cur
  | v :: r, o, cur => putAll r (o + 1) (cur.setIfInBounds o v)
theorem putAll_size : ∀ (vs : List Value) (o : Nat) (cur : Array Value), (putAll vs o cur).size = cur.size
  | [], _, _ => rfl
  | v :: r, o, cur => by rw [putAll, putAll_size r]; simp
theorem putAll_take : ∀ (vs : List Value) (o : Nat) (cur : Array Value), o + vs.length ≤ cur.size → (putAll vs o cur).toList.take (o + vs.length) = cur.toList.take o ++ vs
  | [], o, cur, _ => by simp [putAll]
  | v :: r, o, cur, h => by
    simp only [List.length_cons] at h
    have ih := putAll_take r (o + 1) (cur.setIfInBounds o v) (by simp; omega)
    rw [putAll, List.length_cons, show o + (r.length + 1) = o + 1 + r.length by omega, ih, Array.toList_setIfInBounds]
    have ho : o < cur.toList.length := by simp; omega
    rw [List.take_set, List.take_succ_eq_append_getElem ho, List.set_append_right _ _ (by simp; omega), List.length_take, Nat.min_eq_left (Nat.le_of_lt ho), Nat.sub_self]
    simp
theorem setCells_heap {g : Nat} {e : TypeId} : ∀ (vs : List Value) (o : Nat) (w : World) (cur : Array Value), w.heap[g]? = some (.cells cur e (0, 0)) → (w.setCells g o vs).heap[g]? = some (.cells (putAll vs o cur) e (0, 0))
  | [], _, _, _, h => h
  | v :: r, o, w, cur, h => setCells_heap r (o + 1) _ _ (by simp [World.setCell, Array.getElem?_modify, h])
theorem setCells_grown {g : Nat} : ∀ (vs : List Value) (o : Nat) (w : World), w.grownBy (w.setCells g o vs) (some g)
  | [], _, w => World.grownBy.refl w _
  | v :: r, o, w => by
    have h := setCells_grown r (o + 1) (w.setCell ⟨g, o, none⟩ v) (g := g)
    refine ⟨h.os, h.tape, h.output, by have := h.size; simp [World.setCell] at this; exact this, fun k hk hne => ?_⟩
    rw [World.setCells, h.block k (by simpa [World.setCell] using hk) hne]
    exact Below.heap_setCell w ⟨g, o, none⟩ v k (fun e => hne (by rw [e]))
theorem run_append_own_src (w : World) (base : Nat) (t tx ty e : TypeId) (i : TypeInfo) (z : Value) (size bytes : Nat) (ht : P.underlying t = some (.slice e)) (hi : P.info? e = some i) (hz : i.zero = some z)
    (hsize : i.size = size) (hby : i.bytes = bytes) (hzs : z.cells.size = size) (hsz : 0 < size)
    (v : Value) (n : Nat) (xs : List Value) (hown : w.ownsRow base e size v n xs) (x : Value) (m : Nat) (news : List Value) (hsrc : Src P size tx x m news w)
    (h63 : n + m ≤ maxLen) (hbytes : (n + m) * bytes ≤ 140737488355328) (hbase : base ≤ w.heap.size) :
    ∃ v' w', (Builtin.append_ #[t, tx] ty #[v, x]).run P w = .ok v' w' ∧ w'.ownsRow base e size v' (n + m) (xs ++ news) ∧ w.grownBy w' v.ownBlock ∧ (v'.ownBlock = v.ownBlock ∨ v'.ownBlock = some w.heap.size) := by
  subst hsize
  subst hby
  have hl := hsrc.newsLen
  have hsmall : n + m ≤ 9223372036854775807 := by simp only [maxLen] at h63; omega
  have hlen : (xs ++ news).length = (n + m) * i.size := by rw [List.length_append, hown.1, hl, Nat.add_mul]
  have hfit : ∀ old, old < n + m → Builtin.nextslicecap (n + m) old * i.bytes ≤ 281474976710656 := fun old ho => growslice_fits ho hbytes
  have grown : ∀ (old : Nat), old < n + m → ∀ (row : Option Nat),
      (w.drew.alloc (.cells ((xs ++ news).toArray ++ Builtin.zeroCells z.cells (grownCap w (n + m) old e - (n + m))) e)).ownsRow base e i.size
        (.slice (some ⟨w.heap.size, 0, none⟩) (n + m) (grownCap w (n + m) old e)) (n + m) (xs ++ news) ∧
      w.grownBy (w.drew.alloc (.cells ((xs ++ news).toArray ++ Builtin.zeroCells z.cells (grownCap w (n + m) old e - (n + m))) e)) row := by
    intro old ho row
    have hge := grownCap_ge w (n + m) old e
    have hcm : grownCap w (n + m) old e ≤ maxLen := grownCap_le_maxLen w (n + m) old e h63
    refine ⟨⟨hlen, .inr ⟨w.heap.size, _, _, rfl, hbase, heap_alloc_new w.drew _, hge, hcm, ?_, ?_⟩⟩, ⟨rfl, rfl, rfl, by simp, fun k hk _ => (Below.heap_alloc w.drew _ k hk).trans rfl⟩⟩
    · rw [Array.size_append, List.size_toArray, zeroCells_len, hlen, hzs, ← Nat.add_mul]
      congr 1
      omega
    · rw [Array.toList_append, ← hlen]
      exact List.take_left
  rcases hown.2 with ⟨rfl, rfl⟩ | ⟨g, cap, cur, rfl, hbg, hg, hnc, hcm, hcs, htake⟩
  · have hx : xs = [] := List.eq_nil_of_length_eq_zero (by simpa using hown.1)
    subst hx
    by_cases hm : m = 0
    · subst hm
      have hn : news = [] := List.eq_nil_of_length_eq_zero (by simpa using hl)
      subst hn
      refine ⟨.slice none 0 0, w, ?_, World.ownsRow_nil w base e i.size, ⟨rfl, rfl, rfl, Nat.le_refl _, fun _ _ _ => rfl⟩, .inl rfl⟩
      rcases hsrc.kind with ⟨e', hk⟩ | hk <;> simp [Builtin.append_, run_underlying ht, run_underlying hk, sizeOf, typeInfo, hi, hsrc.len, hsrc.cells]
    · have hr := run_append_grow_src (P := P) w t tx ty e i z ht hi hz none 0 0 [] (by simp [Builtin.firstCells]) x m news hsrc (by omega) (by omega) (by simpa using hfit 0 (by omega))
      have hgr := grown 0 (by omega) (Value.ownBlock (.slice none 0 0))
      simp only [Nat.zero_add, List.nil_append] at hgr hr ⊢
      exact ⟨_, _, hr, hgr.1, hgr.2, .inr rfl⟩
  · by_cases hroom : n + m ≤ cap
    · have hfits : n * i.size + news.length ≤ cur.size := by rw [hl, hcs, ← Nat.add_mul]; exact Nat.mul_le_mul_right _ hroom
      have hr := run_append_room_src (P := P) w t tx ty e i ht hi g 0 n cap x m news hsrc hroom (fun j hj => by
        rw [cell_of_row w g _ cur e (0, 0) hg, Nat.zero_add, Array.getElem?_eq_getElem (by omega)]; rfl) (fun j hj => frozen_of_row w g _ cur e hg)
      rw [Nat.zero_add] at hr
      refine ⟨_, _, hr, ⟨hlen, .inr ⟨g, cap, _, rfl, hbg, setCells_heap news (n * i.size) w cur hg, hroom, hcm, by rw [putAll_size]; exact hcs, ?_⟩⟩, setCells_grown news (n * i.size) w, .inl rfl⟩
      rw [Nat.add_mul, ← hl, putAll_take _ _ _ hfits, htake]
    · have hold : (Builtin.firstCells i.size n (.slice (some ⟨g, 0, none⟩) n cap)).run P w.drew = .ok xs.toArray w.drew :=
        run_firstCells_some w.drew i.size n ⟨g, 0, none⟩ n cap xs hown.1 (fun j u hu => by simpa using hown.cells rfl j u hu)
      have hr := run_append_grow_src (P := P) w t tx ty e i z ht hi hz (some ⟨g, 0, none⟩) n cap xs hold x m news hsrc (by omega) (by omega) (hfit cap (by omega))
      have hgr := grown cap (by omega) (Value.ownBlock (.slice (some ⟨g, 0, none⟩) n cap))
      exact ⟨_, _, hr, hgr.1, hgr.2, .inr rfl⟩

theorem Ints.src {k : IntKind} {w : World} {A : Option Addr} {xs : List Int} (h : Ints k w A xs) {tx e' : TypeId} (hk : P.underlying tx = some (.slice e')) (c : Nat) : Src P 1 tx (.slice A xs.length c) xs.length (ints k xs) w := by
  by_cases hn : xs = []
  · subst hn
    rcases A with _ | a
    · exact Src.ofNil w hk c
    · exact Src.ofSlice w hk a 0 c [] rfl (fun j u hu => by simp at hu) (fun u hu => by simp at hu)
  · obtain ⟨b, off, rfl, hc⟩ := h hn
    refine Src.ofSlice w hk ⟨b, off, none⟩ xs.length c _ (by simp [ints]) (fun j u hu => ?_) (fun u hu => ?_)
    · have hj : j < xs.length := by
        rcases Nat.lt_or_ge j xs.length with h | h
        · exact h
        · simp [ints, List.getElem?_eq_none h] at hu
      rw [Addr.add_lit, hc j hj]
      simpa [ints, hj, List.getD_eq_getElem?_getD] using hu
    · simp only [ints, List.mem_map] at hu
      obtain ⟨x, _, rfl⟩ := hu
      rfl
theorem Ints.own {k : IntKind} {w : World} {base n : Nat} {e : TypeId} {v : Value} {xs : List Int} (h : w.ownsRow base e 1 v n (ints k xs)) : ∃ A c, v = .slice A xs.length c ∧ Ints k w A xs := by
  have hl : xs.length = n := by have := h.1; simp [ints] at this; exact this
  rcases h.2 with ⟨rfl, hn⟩ | ⟨g, cap, cur, rfl, _⟩
  · have : xs = [] := List.eq_nil_of_length_eq_zero (by omega)
    subst this
    exact ⟨none, 0, rfl, Ints.nil k w none⟩
  · refine ⟨_, cap, by rw [hl], fun _ => ⟨g, 0, rfl, fun j hj => ?_⟩⟩
    have hc := h.cells (g := g) rfl j (.int k (xs.getD j 0)) (by simp [ints, hj, List.getD_eq_getElem?_getD])
    rwa [Addr.add_lit] at hc
theorem own_base {w : World} {base : Nat} {e : TypeId} {size n : Nat} {v : Value} {xs : List Value} (h : w.ownsRow base e size v n xs) : ∀ k, v.ownBlock = some k → base ≤ k := fun k hk => by
  rcases h.2 with ⟨rfl, _⟩ | ⟨g, cap, cur, rfl, hb, _⟩
  · simp [Value.ownBlock] at hk
  · have : g = k := by simpa [Value.ownBlock] using hk
    omega
theorem own_str {w : World} {base n : Nat} {e' src dst e : TypeId} {v : Value} {xs : List Int} (hs : P.underlying src = some (.slice e)) (he : P.underlying e = some (.int .u8)) (hd : P.underlying dst = some .string)
    (h : w.ownsRow base e' 1 v n (ints .u8 xs)) : (convert src dst v).run P w = .ok (.string (strOfNums xs)) w := by
  have hl : xs.length = n := by have := h.1; simp [ints] at this; exact this
  rcases h.2 with ⟨rfl, rfl⟩ | ⟨g, cap, cur, rfl, _⟩
  · obtain rfl : xs = [] := List.eq_nil_of_length_eq_zero hl
    exact run_convert_bytes_nil w src e hs he 0 0 dst hd
  · refine run_convert_bytes_arg w src e hs he g 0 n cap xs hl (fun i hi => ?_) dst hd
    have hc := h.cells (g := g) rfl i (.int .u8 (xs.getD i 0)) (by simp [ints, show i < xs.length by omega, List.getD_eq_getElem?_getD])
    rwa [Addr.add_lit] at hc
theorem own_below {w w1 : World} {base : Nat} {e : TypeId} {size n : Nat} {v : Value} {xs : List Value} (h : w.ownsRow base e size v n xs) (hb : Below w.heap.size w w1) : w1.ownsRow base e size v n xs :=
  h.kept (row := none) ⟨hb.os, hb.tape, hb.output, hb.size, fun i hi _ => hb.block i hi⟩ (by cases v.ownBlock <;> simp)
/-- A row of the call's own is no row that came of a text's bytes. -/
theorem own_not_text {w : World} {base : Nat} {e e' : TypeId} {size n g p q : Nat} {v : Value} {xs : List Value} {T : Array Value} (h : w.ownsRow base e size v n xs) (ht : w.heap[g]? = some (.cells T e' (p, q + 1))) : some g ≠ v.ownBlock := by
  rcases h.2 with ⟨rfl, _⟩ | ⟨g', cap, cur, rfl, _, hh, _⟩
  · simp [Value.ownBlock]
  · intro he
    have : g = g' := by simpa [Value.ownBlock] using he
    subst this
    rw [hh] at ht
    simp at ht
theorem blk_grown {w w1 : World} {g : Nat} {o : Obj} {row : Option Nat} (h : w.heap[g]? = some o) (hg : w.grownBy w1 row) (hne : some g ≠ row) : w1.heap[g]? = some o := (hg.block g (Array.getElem?_eq_some_iff.1 h).1 hne).trans h
theorem blk_alloc {w : World} {g : Nat} {o : Obj} (h : w.heap[g]? = some o) (o' : Obj) : (w.alloc o').heap[g]? = some o := (Below.heap_alloc w o' g (Array.getElem?_eq_some_iff.1 h).1).trans h
theorem lits_lit (w : World) (k : IntKind) (t : TypeId) (x y : Int) : Ints k (w.alloc (.cells #[.int k x, .int k y] t)) (some ⟨w.heap.size, 0, none⟩) [x, y] := ints_lit w k t [x, y]
variable {ops : Array Oper} {rest : List Oper} {o : Oper} {a : Act} {Q : Exit → Act → World → Prop}
/-- append as one step of a region that draws its order (for 'go_region_law'). -/
theorem step_append_src {K : Act → World → Prop} {E : Prop} {w0 W : World} (base size bytes : Nat) (s x : Operand) (t tx e : TypeId) (hgd : o.guard = none) (ho : o.op = .call { callee := .builtin .append, args := #[s, x], argTypes := #[t, tx] })
    (ht : P.underlying t = some (.slice e)) {i : TypeInfo} {z : Value} (hi : P.info? e = some i) (hz : i.zero = some z) (hsize : i.size = size) (hby : i.bytes = bytes) (hzs : z.cells.size = size) (hsz : 0 < size)
    {v : Value} {n : Nat} {xs : List Value} (HO : W.ownsRow base e size v n xs) (hs : a.eval s = v) {xv : Value} {m : Nat} {news : List Value} (hsrc : Src P size tx xv m news W) (hx : a.eval x = xv)
    (h63 : n + m ≤ maxLen) (hbytes : (n + m) * bytes ≤ 140737488355328) (HB : Below w0.heap.size w0 W) (hbase : base ≤ W.heap.size) (hw0 : w0.heap.size ≤ base)
    (h : ∀ v1 w1, w1.ownsRow base e size v1 (n + m) (xs ++ news) → Below w0.heap.size w0 w1 → W.grownBy w1 v.ownBlock → (v1.ownBlock = v.ownBlock ∨ v1.ownBlock = some W.heap.size) → K (a.put o.dst v1) w1) :
    if Region.wanted o (yielded ops a.tmps) = true then Oper.wp P o a W K Q else E := by
  have hw : Region.wanted o (yielded ops a.tmps) = true := by simp [Region.wanted, hgd]
  rw [if_pos hw]
  obtain ⟨v1, w1, hr, h1, h2, h3⟩ := run_append_own_src W base t tx o.type e i z size bytes ht hi hz hsize hby hzs hsz v n xs HO xv m news hsrc h63 hbytes hbase
  unfold Oper.wp execOp
  simp only [ho, resolve, invoke, builtin, Sem.run_bind, Sem.run_pure, Result.andThen_ok, List.map_toArray, List.map_cons, List.map_nil, hs, hx, hr]
  exact h v1 w1 h1 (HB.grown h2 HB.size fun k hk => Nat.le_trans hw0 (own_base HO k hk)) h2 h3
/-- append, met in a walk: 's = append(s, x...)', s a row of the call's own. -/
theorem wp_append_src {w0 W : World} (base size bytes : Nat) (s x : Operand) (t tx e : TypeId) (hgd : o.guard = none) (ho : o.op = .call { callee := .builtin .append, args := #[s, x], argTypes := #[t, tx] })
    (ht : P.underlying t = some (.slice e)) {i : TypeInfo} {z : Value} (hi : P.info? e = some i) (hz : i.zero = some z) (hsize : i.size = size) (hby : i.bytes = bytes) (hzs : z.cells.size = size) (hsz : 0 < size)
    {v : Value} {n : Nat} {xs : List Value} (HO : W.ownsRow base e size v n xs) (hs : a.eval s = v) {xv : Value} {m : Nat} {news : List Value} (hsrc : Src P size tx xv m news W) (hx : a.eval x = xv)
    (h63 : n + m ≤ maxLen) (hbytes : (n + m) * bytes ≤ 140737488355328) (HB : Below w0.heap.size w0 W) (hbase : base ≤ W.heap.size) (hw0 : w0.heap.size ≤ base)
    (h : ∀ v1 w1, w1.ownsRow base e size v1 (n + m) (xs ++ news) → Below w0.heap.size w0 w1 → W.grownBy w1 v.ownBlock → (v1.ownBlock = v.ownBlock ∨ v1.ownBlock = some W.heap.size) → wpList P ops Q rest (a.put o.dst v1) w1) :
    wpList P ops Q (o :: rest) a W := by
  obtain ⟨v1, w1, hr, h1, h2, h3⟩ := run_append_own_src W base t tx o.type e i z size bytes ht hi hz hsize hby hzs hsz v n xs HO xv m news hsrc h63 hbytes hbase
  refine wpList_plain hgd fun K hK => ?_
  unfold Oper.wp execOp
  simp only [ho, resolve, invoke, builtin, Sem.run_bind, Sem.run_pure, Result.andThen_ok, List.map_toArray, List.map_cons, List.map_nil, hs, hx, hr]
  exact hK _ _ (h v1 w1 h1 (HB.grown h2 HB.size fun k hk => Nat.le_trans hw0 (own_base HO k hk)) h2 h3)
end

/-! ### bytes of a text -/
theorem nil_app (x : ByteArray) : (⟨#[]⟩ : ByteArray) ++ x = x := ByteArray.empty_append
theorem app_nil (x : ByteArray) : x ++ (⟨#[]⟩ : ByteArray) = x := ByteArray.append_empty
/-- The letter at a place of a text, as a number. -/
def byteAt (s : ByteArray) (j : Nat) : Nat := (s.data.toList.getD j 0).toNat
theorem byteAt_lt (s : ByteArray) (j : Nat) : byteAt s j < 256 := UInt8.toNat_lt _
theorem byteAt_get (s : ByteArray) (j : Nat) (h : j < s.size) : byteAt s j = s[j].toNat := by
  have h' : j < s.data.toList.length := by simpa using h
  unfold byteAt
  rw [List.getD_eq_getElem?_getD, List.getElem?_eq_getElem h']; rfl
theorem bytesCells_get (W : World) (e : TypeId) (s : ByteArray) (j : Nat) (h : j < s.size) : (Lib.bytesCells W e s)[j]? = some (.int .u8 (byteAt s j : Nat)) := by
  unfold byteAt
  simp [Lib.bytesCells, Array.getElem?_append, List.getD, h]
theorem index_at (t : TypeId) {P : Program} (ht : P.underlying t = some .string) (s : ByteArray) (j : Nat) (h : j < s.size) (i : Int) (hi : i = j) (W : World) :
    (Instr.index t (.string s) (.int .i64 i)).run P W = .ok (.int .u8 (byteAt s j : Nat)) W := by
  subst hi
  rw [run_index_string W t s .i64 (j : Int) ht, dif_pos ⟨by omega, by omega⟩, byteAt_get s j h]
  rfl
theorem drop_byte (s : ByteArray) (j : Nat) (h : j < s.size) : s.data.toList.drop j = s.data.toList.getD j 0 :: s.data.toList.drop (j + 1) := by
  have h' : j < s.data.toList.length := by simpa using h
  rw [List.drop_eq_getElem_cons h', List.getD_eq_getElem?_getD, List.getElem?_eq_getElem h']; rfl
theorem drop_byte_end (s : ByteArray) (j : Nat) (h : s.size ≤ j) : s.data.toList.drop j = [] := List.drop_eq_nil_of_le (by simpa using h)

/-! ### what a call tells -/
/-- A text and an error's number; new memory alone. -/
def TextErr (r : ByteArray × Int) (w : World) (e : Ending) (w' : World) : Prop := e = .returned (.tuple #[.string r.1, .int .i64 r.2]) ∧ Below w.heap.size w w'
/-- A number and an error's number; new memory alone. -/
def NumErr (r : Int × Int) (w : World) (e : Ending) (w' : World) : Prop := e = .returned (.tuple #[.int .i64 r.1, .int .i64 r.2]) ∧ Below w.heap.size w w'
def Text (r : ByteArray) (w : World) (e : Ending) (w' : World) : Prop := e = .returned (.string r) ∧ Below w.heap.size w w'
def TextOk (r : ByteArray × Bool) (w : World) (e : Ending) (w' : World) : Prop := e = .returned (.tuple #[.string r.1, .bool r.2]) ∧ Below w.heap.size w w'
end Go.Proofs.Ytkodmicocjklcaa
