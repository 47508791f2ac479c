/- sha.pad: what the call comes to. -/
import Derived.Test.YtkodmicocjklcaaShWrite
import Derived.Lib.AppendZerosOnto
namespace Go.Proofs.Ytkodmicocjklcaa
open Go.RowKit

theorem own_put {w : World} {base g n cap : Nat} {e : TypeId} {xs : List Value} (h : w.ownsRow base e 1 (.slice (some ⟨g, 0, none⟩) n cap) n xs) (i : Nat) (hi : i < n) (x : Value) : (w.setCell ⟨g, i, none⟩ x).ownsRow base e 1 (.slice (some ⟨g, 0, none⟩) n cap) n (xs.set i x) := by
  refine ⟨by have := h.1; simpa using this, ?_⟩
  rcases h.2 with ⟨h1, _⟩ | ⟨g', cap', cur, h1, hb, hh, hn, hc, hs, ht⟩
  · cases h1
  · simp only [Value.slice.injEq, Option.some.injEq, Addr.mk.injEq] at h1
    obtain ⟨⟨rfl, -⟩, -, rfl⟩ := h1
    refine .inr ⟨g, cap, cur.setIfInBounds i x, rfl, hb, by simp [World.setCell, Array.getElem?_modify, hh], hn, hc, by simpa using hs, ?_⟩
    rw [← ht, Array.toList_setIfInBounds, List.take_set]
theorem own_free {w : World} {base g n cap : Nat} {e : TypeId} {xs : List Value} (h : w.ownsRow base e 1 (.slice (some ⟨g, 0, none⟩) n cap) n xs) (i : Nat) : w.frozen? ⟨g, i, none⟩ = false := by
  rcases h.2 with ⟨h1, _⟩ | ⟨g', cap', cur, h1, hb, hh, hn, hc, hs, ht⟩
  · cases h1
  · simp only [Value.slice.injEq, Option.some.injEq, Addr.mk.injEq] at h1
    obtain ⟨⟨rfl, -⟩, -, rfl⟩ := h1
    exact blk_free hh i
theorem own_cell {w : World} {base g n cap : Nat} {e : TypeId} {xs : List Int} (h : w.ownsRow base e 1 (.slice (some ⟨g, 0, none⟩) n cap) n (ints .u8 xs)) (i : Nat) (hi : i < n) : w.cell? ⟨g, i, none⟩ = some (.int .u8 (xs.getD i 0)) := by
  have hl : xs.length = n := by have := h.1; simpa [ints] using this
  have hc := h.cells (g := g) rfl i (.int .u8 (xs.getD i 0)) (by simp [ints, show i < xs.length by omega, List.getD_eq_getElem?_getD])
  rwa [Addr.add_lit, Nat.zero_add] at hc
theorem own_block {w : World} {base g n cap : Nat} {e : TypeId} {xs : List Value} (h : w.ownsRow base e 1 (.slice (some ⟨g, 0, none⟩) n cap) n xs) : base ≤ g := own_base h g rfl
theorem ints_set (k : IntKind) (l : List Int) (i : Nat) (x : Int) : (ints k l).set i (.int k x) = ints k (l.set i x) := by simp [ints, List.map_set]

theorem zeros_u8 (K : Nat) : Builtin.zeroCells (Value.int .u8 0).cells K = (ints .u8 (List.replicate K 0)).toArray := by
  apply Array.ext
  · simp [Builtin.zeroCells, ints, Value.cells]
  · intro i h1 h2
    simp [Builtin.zeroCells, ints, Value.cells, Nat.mod_one]

theorem run_append_make (w : World) (ty : TypeId) (base g : Nat) (x : Int) (K : Nat) (hK : 0 < K) (hK2 : K ≤ 1000000) (hg : w.heap[g]? = some (.cells #[.int .u8 x] 5)) (hb : base ≤ w.heap.size) :
    ∃ cap w1, (Builtin.append_ #[25, 3] ty #[.slice (some ⟨g, 0, none⟩) 1 1, .int .i64 (K : Nat)]).run Try.prog w = .ok (.slice (some ⟨w.heap.size, 0, none⟩) (1 + K) cap) w1 ∧
      w1.ownsRow base 5 1 (.slice (some ⟨w.heap.size, 0, none⟩) (1 + K) cap) (1 + K) (ints .u8 (x :: List.replicate K 0)) ∧ Below w.heap.size w w1 := by
  obtain ⟨i0, hi, hz0, hz1, hz2⟩ := info_parts (show (Try.prog.info? 5).map (fun i => (i.zero, i.size, i.bytes)) = some (some (.int .u8 0), 1, 1) by kernel_rfl)
  have hold : (Builtin.firstCells i0.size 1 (.slice (some ⟨g, 0, none⟩) 1 1)).run Try.prog w.drew = .ok [Value.int .u8 x].toArray w.drew :=
    run_firstCells_some w.drew i0.size 1 ⟨g, 0, none⟩ 1 1 [Value.int .u8 x] (by rw [hz1]; rfl) (fun j u hu => by
      have hadd : (⟨g, 0, none⟩ : Addr).add j = ⟨g, j, none⟩ := by rw [Addr.add_lit]; simp
      rw [hadd, cell_of_row w.drew g j _ _ (0, 0) hg]
      simpa using hu)
  have hr := Lib.run_append_grow_zeros (P := Try.prog) w 25 3 ty 5 i0 (.int .u8 0) .i64 .i64 Try.underlying25 Try.underlying3 hi hz0 (some ⟨g, 0, none⟩) 1 1 [Value.int .u8 x] hold K hK (by omega) (by omega) (by omega) (by rw [hz2]; omega)
    (by rw [hz2]; exact growslice_fits (by omega) (by omega))
  have hge := grownCap_ge w (1 + K) 1 5
  have hcm : grownCap w (1 + K) 1 5 ≤ maxLen := grownCap_le_maxLen w (1 + K) 1 5 (by unfold maxLen; omega)
  refine ⟨_, _, hr, ⟨by simp [ints]; omega, .inr ⟨w.heap.size, _, _, rfl, hb, heap_alloc_new w.drew _, hge, hcm, ?_, ?_⟩⟩, ((Below.refl _ _).drew).alloc (Nat.le_refl _) _⟩
  · rw [zeros_u8, zeros_u8]
    simp [ints]; omega
  · rw [zeros_u8, zeros_u8]
    simp only [Array.toList_append, List.append_assoc]
    have e : [Value.int .u8 x] ++ ints .u8 (List.replicate K 0) = ints .u8 (x :: List.replicate K 0) := rfl
    rw [← List.append_assoc, e, Nat.mul_one]
    have hl : (ints .u8 (x :: List.replicate K 0)).length = 1 + K := by simp [ints]; omega
    rw [← hl, List.take_left]

/-! ### the bytes behind all -/
def padPut (m : Nat) : Nat → Nat → List Int → List Int
  | 0, _, L => L
  | k + 1, i, L => padPut m k (i + 1) (L.set (L.length - 1 - i) ((m / 2 ^ (8 * i) % 256 : Nat) : Int))
theorem padPut_len (m : Nat) : ∀ k i L, (padPut m k i L).length = L.length
  | 0, _, _ => rfl
  | k + 1, i, L => by rw [padPut, padPut_len m k]; simp
def padK (n : Nat) : Nat := (239 - n % 128) % 128
def padF (n : Nat) : List Int := (padPut (8 * n) 8 0 (128 :: List.replicate (padK n + 16) 0)).set (1 + (padK n + 16) - 9) 0

set_option maxHeartbeats 2000000 in
theorem pad_any (g : Nat) (w : World) (H : List (BitVec 64)) (v : Value) (n : Nat) (hH : H.length = 8) (hn : n ≤ 1000000000) (hg : St w g H v n) :
    Calls Try.prog 25 #[.pointer (some ⟨g, 0, none⟩)] w fun e w' => ∃ u, e = .returned u ∧ OwnB w' w.heap.size u (padF n) ∧ Below w.heap.size w w' := by
  have hc9 := hg.count hH
  have hlt : g < w.heap.size := (Array.getElem?_eq_some_iff.1 hg).1
  have hq : (239 - (n : Int) % 128) % 128 = ((padK n : Nat) : Int) := by unfold padK; omega
  have HPF := Lib.hid (show padF n = (padPut (8 * n) 8 0 (128 :: List.replicate (padK n + 16) 0)).set (1 + (padK n + 16) - 9) 0 from rfl)
  have hqb : padK n < 128 := by unfold padK; omega
  generalize padF n = F at HPF ⊢
  generalize padK n = q at hq HPF hqb
  obtain ⟨cap, w1, hr, ho, hb⟩ := run_append_make (w.alloc (.cells #[.int .u8 128] 5)) 25 w.heap.size w.heap.size 128 (q + 16) (by omega) (by omega) (heap_alloc_new w _) (by simp)
  have hsz : (w.alloc (.cells #[.int .u8 128] 5)).heap.size = w.heap.size + 1 := by simp
  rw [hsz] at hr ho
  have HO := Lib.hid ho
  have HB := Lib.hid (show Below w.heap.size w w1 from ((Below.refl _ _).alloc (Nat.le_refl _) _).trans (hb.mono (by simp)))
  have hc91 : w1.cell? ⟨g, 9, none⟩ = some (.int .i64 n) := (HB.out.cell hlt).trans hc9
  rw [show (((q + 16 : Nat)) : Int) = (q : Int) + 16 by omega] at hr
  clear hg ho hb hsz hH
  go_enter Try.func25, Try.ntmps25
  go_wp2_with (at_builtin; refine Lib.wpList_append_run _ rfl (.tmp 15) (.tmp 17) 25 3 rfl _ _ rfl rfl _ _ hr ?_)
  clear hc9 hc91 hr hq
  generalize hP : padPut (8 * n) 8 0 (128 :: List.replicate (q + 16) 0) = T
  have HP := Lib.hid (And.intro hP trivial)
  have HPF2 := Lib.hid (show F = T.set (1 + (q + 16) - 9) 0 by rw [HPF.out, hP])
  clear hP HPF
  go_loopw [27] (fun vi wr => ∃ (i : Nat) (L : List Int), i ≤ 8 ∧ vi = .int .i64 i ∧ Hid (L.length = 1 + (q + 16)) ∧ Hid (padPut (8 * n) (8 - i) i L = T ∧ True) ∧ Hid (wr.ownsRow w.heap.size 5 1 (.slice (some ⟨w.heap.size + 1, 0, none⟩) (1 + (q + 16)) cap) (1 + (q + 16)) (ints .u8 L)) ∧ Hid (Below w.heap.size w wr)) (fun vi _ => 8 - (intOf vi).toNat)
  case atStart => exact ⟨0, _, by omega, rfl, Lib.hid (by simp; omega), HP, HO, HB⟩
  case round =>
    clear HO HB HP
    obtain ⟨i, L, hi, rfl, hL, hX, hO, hB⟩ := hrel
    by_cases hlt2 : i < 8
    · have hc := own_cell hO.out (q + 16 - i) (by omega)
      have hf := own_free hO.out (q + 16 - i)
      have HPN := Lib.hid (show padPut (8 * n) (8 - i) i L = padPut (8 * n) (8 - (i + 1)) (i + 1) (L.set (q + 16 - i) ((8 * n / 2 ^ (8 * i) % 256 : Nat) : Int)) by
        rw [show 8 - i = (8 - (i + 1)) + 1 by omega, padPut, hL.out, show 1 + (q + 16) - 1 - i = q + 16 - i by omega])
      have HV := Lib.hid (show (n : Int) * 8 / 2 ^ (8 * i) % 256 = ((8 * n / 2 ^ (8 * i) % 256 : Nat) : Int) by simp [Int.mul_comm])
      go_wp2
      go_roundw
      case rel =>
        refine ⟨i + 1, L.set (q + 16 - i) ((8 * n / 2 ^ (8 * i) % 256 : Nat) : Int), by omega, by go_num, Lib.hid (by rw [List.length_set]; exact hL.out), Lib.hid ⟨by rw [← HPN.out]; exact hX.out.1, trivial⟩, Lib.hid ?_, Lib.hid (hB.out.setCell (by simp) _)⟩
        rw [HV.out, ← ints_set]
        exact own_put hO.out _ (by omega) _
      case measure => simp [intOf]; omega
    · obtain rfl : i = 8 := by omega
      simp only [Int.cast_ofNat_Int]
      obtain rfl : L = T := hX.out.1
      have hc := own_cell hO.out (1 + (q + 16) - 9) (by omega)
      have hf := own_free hO.out (1 + (q + 16) - 9)
      have HV := Lib.hid (show (n : Int) / 2305843009213693952 = 0 by omega)
      go_wp2
      go_ret
      refine ⟨_, rfl, ?_, hB.out.setCell (by simp) _⟩
      rw [HPF2.out, HV.out]
      unfold OwnB
      rw [List.length_set, hL.out, ← ints_set]
      exact own_put hO.out _ (by omega) _
end Go.Proofs.Ytkodmicocjklcaa
