/- rhzlaw1.NumSums: the walk, over what the sums' plain law says. -/
import Derived.Test.YtpgnddopnblflaaFirst1
namespace Go.Proofs.Ytpgnddopnblflaa
open Go.RowKit

/-- The three letters at a place, taken together. -/
def xorAt (a b c : ByteArray) (k : Nat) : Int := bits .xor .u8 (bits .xor .u8 (byteAt a k : Nat) (byteAt b k : Nat)) (byteAt c k : Nat)
def xorAll (a b c : ByteArray) : ByteArray := strOfNums ((List.range a.size).map (xorAt a b c))
/-- A text with one letter turned. -/
def turned (a : ByteArray) (p : Nat) (x : Int) : ByteArray := strOfNums (((List.range a.size).map fun j => ((byteAt a j : Nat) : Int)).set p (bits .xor .u8 (byteAt a p : Nat) x))

/-- What a row that came of a text's bytes holds, one cell turned. -/
theorem turned_run {P : Program} (W : World) (g : Nat) (T : Array Value) (fr : Nat × Nat) (e src dst : TypeId) (hs : P.underlying src = some (.slice e)) (he : P.underlying e = some (.int .u8)) (hd : P.underlying dst = some .string)
    (a : ByteArray) (p cap : Nat) (x : Int) (h1 : W.heap[g]? = some (.cells (T.setIfInBounds p (.int .u8 (bits .xor .u8 (byteAt a p : Nat) x))) e fr)) (hg : ∀ j, j < a.size → T[j]? = some (.int .u8 (byteAt a j : Nat))) (hp : p < a.size) :
    (convert src dst (.slice (some ⟨g, 0, none⟩) a.size cap)).run P W = .ok (.string (turned a p x)) W := by
  refine run_convert_bytes_arg _ src e hs he g 0 a.size cap _ (by simp) (fun i hi => ?_) dst hd
  rw [Nat.zero_add, cell_of_row _ g i _ e fr h1]
  have hTp : p < T.size := by
    have := hg p hp
    exact (Array.getElem?_eq_some_iff.1 this).1
  by_cases hip : p = i
  · subst hip
    rw [Array.getElem?_setIfInBounds_self_of_lt hTp, List.getD_eq_getElem?_getD, List.getElem?_set_self (by simpa using hp)]
    rfl
  · rw [Array.getElem?_setIfInBounds_ne hip, hg i hi, List.getD_eq_getElem?_getD, List.getElem?_set_ne hip]
    simp [hi]

set_option maxHeartbeats 2000000 in
theorem sums_main (a b c : ByteArray) (at_ x : Int) (w : World) (ha : a.size ≤ 8000) (hb : b.size = a.size) (hc : c.size = a.size)
    (hlin : crcF (xorAll a b c) = bits .xor .u32 (bits .xor .u32 (crcF a) (crcF b)) (crcF c))
    (hcase : at_ < 0 ∨ (0 ≤ at_ ∧ (a.size : Int) ≤ at_) ∨ (0 ≤ at_ ∧ ¬ (a.size : Int) ≤ at_ ∧ x = 0) ∨ (0 ≤ at_ ∧ ¬ (a.size : Int) ≤ at_ ∧ (x == 0) = false ∧ (crcF (turned a at_.toNat x) != crcF a) = true)) :
    Calls Try.prog 5 #[.string a, .string b, .string c, .int .i64 at_, .int .u8 x] w fun e w' => e = .returned (.bool true) ∧ Below w.heap.size w w' := by
  have hB0 := Below.refl w.heap.size w
  have hbn : ((b.size : Int) != (a.size : Int)) = false := by simp [hb]
  have hcn : ((c.size : Int) != (a.size : Int)) = false := by simp [hc]
  have HBs := Lib.hid hb
  have HCs := Lib.hid hc
  have HLin := Lib.hid hlin
  have HCase := Lib.hid hcase
  clear hb hc hlin hcase
  obtain ⟨i0, hi, hz0, hz1, hz2⟩ := info_parts (show (Try.prog.info? 5).map (fun i => (i.zero, i.size, i.bytes)) = some (some (.int .u8 0), 1, 1) by kernel_rfl)
  have hmk := fun W : World => run_make_ints (P := Try.prog) W 31 5 .u8 1 Try.underlying31 hi hz0 hz1 hz2 a.size (by omega) (by omega)
  have hcb := fun (W : World) (s : ByteArray) => Lib.run_convert_string_bytes (P := Try.prog) W 9 31 5 s Try.underlying9 Try.underlying31 Try.underlying5
  clear hi hz0 hz1 hz2
  go_enter Try.func5, Try.ntmps5
  go_wp2_with (go_at_call 9; refine (first_any _).mono ?_; rintro e w1 ⟨rfl, hb1⟩; replace hB0 := below_then hB0 hb1; clear hb1)
  clear hmk hcb
  have HB1 := Lib.hid hB0
  clear hB0
  go_loopw [13] (fun vi wr => ∃ (k : Nat) (cs : List Int), k ≤ a.size ∧ vi = .int .i64 k ∧ Hid (cs.length = a.size ∧ ∀ j, j < k → cs.getD j 0 = xorAt a b c j) ∧ Hid (wr.heap[w1.heap.size]? = some (.cells (u8s cs).toArray 5)) ∧
      Hid (wr.heap[w1.heap.size + 1]? = some (.cells (Lib.bytesCells (w1.alloc (.cells (ints .u8 (List.replicate a.size 0)).toArray 5)) 5 a) 5 ((Lib.bytesCells (w1.alloc (.cells (ints .u8 (List.replicate a.size 0)).toArray 5)) 5 a).size, (Lib.bytesCells (w1.alloc (.cells (ints .u8 (List.replicate a.size 0)).toArray 5)) 5 a).size + 1))) ∧ Hid (Below w.heap.size w wr)) (fun vi _ => a.size - (intOf vi).toNat)
  case atStart =>
    refine ⟨0, List.replicate a.size 0, by omega, rfl, ⟨by simp, fun j hj => by omega⟩, ?_, ?_, below_bytes (HB1.out.alloc HB1.out.size _) _ _⟩
    · exact (Lib.bytesWorld_at_old _ _ _ _ (by simp)).trans (heap_alloc_new _ _)
    · have h := Lib.bytesWorld_at_new (w1.alloc (.cells (ints .u8 (List.replicate a.size 0)).toArray 5)) 5 a
      rw [show (w1.alloc (.cells (ints .u8 (List.replicate a.size 0)).toArray 5)).heap.size = w1.heap.size + 1 by simp] at h
      exact h
  case round =>
    obtain ⟨k, cs, hk, rfl, hcs, hh, ht, hb⟩ := hrel
    by_cases hlt : k < a.size
    · have hb2 : k < b.size := by rw [HBs.out]; exact hlt
      have hc2 : k < c.size := by rw [HCs.out]; exact hlt
      have hcell : wr.cell? ⟨w1.heap.size, k, none⟩ = some (.int .u8 (cs.getD k 0)) := u8s_cell hh.out k (by rw [hcs.out.1]; exact hlt)
      have hfr : wr.frozen? ⟨w1.heap.size, k, none⟩ = false := blk_free hh.out k
      go_wp2
      go_region
      go_wp2
      go_roundw
      case rel =>
        refine ⟨k + 1, cs.set k (xorAt a b c k), by omega, by go_num, ⟨by rw [List.length_set]; exact hcs.out.1, fun j hj => ?_⟩, ?_, ?_, ?_⟩
        · by_cases e : j = k
          · subst e; rw [List.getD_eq_getElem?_getD, List.getElem?_set_self (by rw [hcs.out.1]; exact hlt)]; rfl
          · rw [List.getD_eq_getElem?_getD, List.getElem?_set_ne (by omega), ← List.getD_eq_getElem?_getD]; exact hcs.out.2 j (by omega)
        · show (World.drew _).heap[_]? = _
          unfold xorAt
          rw [byteAt_get a k hlt, byteAt_get b k hb2, byteAt_get c k hc2]
          exact u8s_put hh.out k _
        · exact blk_set_far ht.out (by simp) _
        · exact (hb.out.setCell HB1.out.size _).drew
      case measure => simp [intOf]; omega
    · obtain rfl : k = a.size := by omega
      have hD : cs = (List.range a.size).map (xorAt a b c) := by
        apply List.ext_getElem (by simp [hcs.out.1])
        intro j h1 h2
        have := hcs.out.2 j (by rw [hcs.out.1] at h1; exact h1)
        rw [List.getD_eq_getElem?_getD, List.getElem?_eq_getElem h1] at this
        simpa using this
      have hcv := run_convert_bytes_arg (P := Try.prog) wr 31 5 Try.underlying31 Try.underlying5 w1.heap.size 0 a.size a.size cs hcs.out.1 (fun i hi => by
        rw [Nat.zero_add]; exact u8s_cell hh.out i (by rw [hcs.out.1]; exact hi)) 9 Try.underlying9
      rw [hD] at hcv
      change _ = Result.ok (Value.string (xorAll a b c)) wr at hcv
      clear hD
      have hTg := fun j h => bytesCells_get (w1.alloc (.cells (ints .u8 (List.replicate a.size 0)).toArray 5)) 5 a j h
      have hTt := ht.out
      generalize Lib.bytesCells (w1.alloc (.cells (ints .u8 (List.replicate a.size 0)).toArray 5)) 5 a = T at hTg hTt
      have HT := Lib.hid hTt
      have HTg := Lib.hid hTg
      have HB := hb.out
      clear ht hb hh hTg hTt
      have hsz : (xorAll a b c).size ≤ 9223372036854775807 := by unfold xorAll; rw [strOfNums_size]; simp; omega
      rcases HCase.out with h0 | ⟨h0, h1⟩ | ⟨h0, h1, h2⟩ | ⟨h0, h1, h2, h3⟩
      · go_wp2_with (first
          | (go_at_call 12; refine (crc_any _ _ (by first | exact hsz | omega | (rw [HBs.out]; omega) | (rw [HCs.out]; omega))).mono ?_; (first | rw [HLin.out] | skip); rintro e w2 ⟨rfl, hb2⟩; replace HT := Lib.hid (blk_below HT.out hb2); replace HB := below_then HB hb2; clear hb2)
          | (go_at_call 9; refine (first_any _).mono ?_; rintro e w2 ⟨rfl, hb2⟩; replace HT := Lib.hid (blk_below HT.out hb2); replace HB := below_then HB hb2; clear hb2))
        go_ret
        exact ⟨rfl, HB⟩
      · go_wp2_with (first
          | (go_at_call 12; refine (crc_any _ _ (by first | exact hsz | omega | (rw [HBs.out]; omega) | (rw [HCs.out]; omega))).mono ?_; (first | rw [HLin.out] | skip); rintro e w2 ⟨rfl, hb2⟩; replace HT := Lib.hid (blk_below HT.out hb2); replace HB := below_then HB hb2; clear hb2)
          | (go_at_call 9; refine (first_any _).mono ?_; rintro e w2 ⟨rfl, hb2⟩; replace HT := Lib.hid (blk_below HT.out hb2); replace HB := below_then HB hb2; clear hb2))
        go_ret
        exact ⟨rfl, HB⟩
      · subst h2
        go_wp2_with (first
          | (go_at_call 12; refine (crc_any _ _ (by first | exact hsz | omega | (rw [HBs.out]; omega) | (rw [HCs.out]; omega))).mono ?_; (first | rw [HLin.out] | skip); rintro e w2 ⟨rfl, hb2⟩; replace HT := Lib.hid (blk_below HT.out hb2); replace HB := below_then HB hb2; clear hb2)
          | (go_at_call 9; refine (first_any _).mono ?_; rintro e w2 ⟨rfl, hb2⟩; replace HT := Lib.hid (blk_below HT.out hb2); replace HB := below_then HB hb2; clear hb2))
        go_ret
        exact ⟨rfl, HB⟩
      · obtain ⟨p, rfl⟩ := Int.eq_ofNat_of_zero_le h0
        have hp : p < a.size := by omega
        have hTp := HTg.out p hp
        have hpT : p < T.size := (Array.getElem?_eq_some_iff.1 hTp).1
        have HTp := Lib.hid hTp
        have H3 := Lib.hid h3
        clear hTp h3
        have hst : (turned a p x).size ≤ 9223372036854775807 := by unfold turned; rw [strOfNums_size]; simp; omega
        have hcellT : wr.cell? ⟨w1.heap.size + 1, p, none⟩ = some (.int .u8 (byteAt a p : Nat)) := by rw [cell_of_row _ _ _ _ _ _ HT.out]; exact HTp.out
        have hfrT : wr.frozen? ⟨w1.heap.size + 1, p, none⟩ = false := by simp [World.frozen?, HT.out]; omega
        go_wp2_with (first
          | (go_at_call 12; refine (crc_any _ _ (by first | exact hsz | omega | (rw [HBs.out]; omega) | (rw [HCs.out]; omega))).mono ?_; (first | rw [HLin.out] | skip); rintro e w2 ⟨rfl, hb2⟩; replace HT := Lib.hid (blk_below HT.out hb2); replace HB := below_then HB hb2; replace hcellT := (hb2.cell (World.block_lt_of_cell? _ _ hcellT)).trans hcellT; replace hfrT : w2.frozen? ⟨w1.heap.size + 1, p, none⟩ = false := (by simp [World.frozen?, HT.out]; omega); clear hb2))
        have HT2 : ∀ v : Value, (w2.setCell ⟨w1.heap.size + 1, p, none⟩ v).heap[w1.heap.size + 1]? = some (.cells (T.setIfInBounds p v) 5 (T.size, T.size + 1)) := fun v => by simp [World.setCell, Array.getElem?_modify, HT.out]
        have HB2 := HB.setCell (p := ⟨w1.heap.size + 1, p, none⟩) (by have := HB1.out.size; show _ ≤ w1.heap.size + 1; omega) (.int .u8 (bits .xor .u8 (byteAt a p : Nat) x))
        refine (first_any _).mono ?_
        rintro e w3 ⟨rfl, hb3⟩
        have hcv2 := fun cap => turned_run (P := Try.prog) w3 (w1.heap.size + 1) T (T.size, T.size + 1) 5 31 9 Try.underlying31 Try.underlying5 Try.underlying9 a p cap x (blk_below (HT2 _) hb3) HTg.out hp
        replace HB2 := below_then HB2 hb3
        clear hb3 HT2 HB hcellT hfrT hcv
        have H4 := H3.out
        rw [Int.toNat_natCast] at H4
        go_wp2_with (go_at_call 12; refine (crc_any _ _ (by first | exact hst | omega)).mono ?_; rintro e w2 ⟨rfl, hb2⟩; replace HB2 := below_then HB2 hb2; clear hb2)
        go_ret
        exact ⟨rfl, HB2⟩

theorem sums_walk (a b c : ByteArray) (at_ x : Int) (w : World) (na : a.size ≤ 9223372036854775807)
    (hlin : a.size ≤ 8000 → b.size = a.size → c.size = a.size → crcF (xorAll a b c) = bits .xor .u32 (bits .xor .u32 (crcF a) (crcF b)) (crcF c))
    (hturn : 0 ≤ at_ → at_ < a.size → x ≠ 0 → crcF (turned a at_.toNat x) ≠ crcF a) :
    Calls Try.prog 5 #[.string a, .string b, .string c, .int .i64 at_, .int .u8 x] w fun e w' => e = .returned (.bool true) ∧ Below w.heap.size w w' := by
  by_cases h : a.size ≤ 8000 ∧ b.size = a.size ∧ c.size = a.size
  · obtain ⟨h1, h2, h3⟩ := h
    refine sums_main a b c at_ x w h1 h2 h3 (hlin h1 h2 h3) ?_
    by_cases h4 : at_ < 0
    · exact .inl h4
    · by_cases h5 : (a.size : Int) ≤ at_
      · exact .inr (.inl ⟨by omega, h5⟩)
      · by_cases h6 : x = 0
        · exact .inr (.inr (.inl ⟨by omega, h5, h6⟩))
        · exact .inr (.inr (.inr ⟨by omega, h5, beq_eq_false_iff_ne.2 h6, bne_iff_ne.2 (hturn (by omega) (by omega) h6)⟩))
  · have hB0 := Below.refl w.heap.size w
    by_cases h1 : 8000 < a.size
    · go_enter Try.func5, Try.ntmps5
      go_wp2_with (go_at_call 9; refine (first_any _).mono ?_; rintro e w1 ⟨rfl, hb1⟩; replace hB0 := below_then hB0 hb1; clear hb1)
      all_goals
        go_ret
        exact ⟨rfl, hB0⟩
    · by_cases h2 : b.size = a.size
      · have hbn : ((b.size : Int) != (a.size : Int)) = false := by simp [h2]
        have hcn : ((c.size : Int) != (a.size : Int)) = true := by simp; omega
        clear h2 hlin hturn
        go_enter Try.func5, Try.ntmps5
        go_wp2_with (go_at_call 9; refine (first_any _).mono ?_; rintro e w1 ⟨rfl, hb1⟩; replace hB0 := below_then hB0 hb1; clear hb1)
        all_goals
          go_ret
          exact ⟨rfl, hB0⟩
      · have hbn : ((b.size : Int) != (a.size : Int)) = true := by simp; omega
        clear h2 hlin hturn
        go_enter Try.func5, Try.ntmps5
        go_wp2_with (go_at_call 9; refine (first_any _).mono ?_; rintro e w1 ⟨rfl, hb1⟩; replace hB0 := below_then hB0 hb1; clear hb1)
        all_goals
          go_ret
          exact ⟨rfl, hB0⟩
end Go.Proofs.Ytpgnddopnblflaa
