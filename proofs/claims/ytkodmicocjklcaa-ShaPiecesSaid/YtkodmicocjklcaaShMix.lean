/- sha.mix: what the call comes to. -/
import Derived.Test.YtkodmicocjklcaaShWords
import Derived.Test.YtkodmicocjklcaaShSt
import Derived.Deep.WholeRow
namespace Go.Proofs.Ytkodmicocjklcaa
open Go.RowKit

set_option maxRecDepth 100000 in
set_option maxHeartbeats 4000000 in
theorem mix_any (g : Nat) (A : Option Addr) (b : List Int) (c : Nat) (w : World) (H : List (BitVec 64)) (left : Value) (n : Int) (hH : H.length = 8) (hl : b.length = 128) (hb : ∀ x ∈ b, 0 ≤ x ∧ x ≤ 255) (hc : 128 ≤ c) (hA : Ints .u8 w A b) (hg : St w g H left n) :
    Calls Try.prog 23 #[.pointer (some ⟨g, 0, none⟩), .slice A 128 c] w fun e w' => e = .returned (.tuple #[]) ∧ St w' g (mixF H b) left n ∧ Tch g none w w' := by
  have hz := fun w => (show (zeroValue 53).run Try.prog w = .ok (.agg zeros80) w by kernel_rfl)
  have hz8 := fun w => (show (zeroValue 44).run Try.prog w = .ok (.agg zeros8) w by kernel_rfl)
  generalize hW : wordsF b = W
  have HW := Lib.hid (And.intro hW trivial)
  have HWL := Lib.hid (show W.length = 80 by rw [← hW]; exact wordsF_len b)
  generalize hF : mixF H b = F
  have HF := Lib.hid (And.intro hF trivial)
  have HA := Lib.hid hA
  have HB := Lib.hid hb
  have HL := Lib.hid hl
  have HG := Lib.hid hg
  have HH := Lib.hid hH
  have hgs : g < w.heap.size := (Array.getElem?_eq_some_iff.1 hg).1
  have SZ80 := Lib.hid (fun (L : List (BitVec 64)) (h : L.length = 80) => show (Try.prog.info? 53).map (·.size) = some (us L).toArray.size by rw [show (us L).toArray.size = 80 by simp [us, h]]; kernel_rfl)
  have SZ8 := Lib.hid (fun (L : List (BitVec 64)) (h : L.length = 8) => show (Try.prog.info? 44).map (·.size) = some (us L).toArray.size by rw [show (us L).toArray.size = 8 by simp [us, h]]; kernel_rfl)
  have SZ8' := Lib.hid (fun (L : List (BitVec 64)) (h : L.length = 8) => show (Try.prog.info? 44).map (·.size) = some (us L).length by rw [show (us L).length = 8 by simp [us, h]]; kernel_rfl)
  clear hW hF hA hb hl hg hH
  go_enter Try.func23, Try.ntmps23
  go_wp2_with (first
    | (go_at_call 30; refine (words_any A b c _ HL.out HB.out hc HA.out).mono ?_; rintro e w1 ⟨rfl, hb1⟩; rw [HW.out.1]; have HB1 := Lib.hid hb1; clear HA hb1)
    | (go_at_call 31; refine (constants_any _).mono ?_; rintro e w2 ⟨rfl, hb2⟩; have HB2 := Lib.hid (Tch.ofBelow (g := g) (vb := none) (below_then HB1.out hb2)); have HG2 := Lib.hid (show St w2 g H left n from blk_below (blk_below HG.out HB1.out) hb2); clear hb2)
    | (refine wpList_store_row rfl 53 (.tmp 4) (.tmp 14) rfl w2.heap.size (us W).toArray rfl rfl 53 zeros80 (blk_alloc (heap_alloc_new w2 _) _) (SZ80.out W HWL.out) (by rw [show (us W).toArray.size = 80 by simp [us, HWL.out]]; rfl) (us_one W) ?_)
    | (refine wpList_store_row rfl 53 (.tmp 5) (.tmp 15) rfl (w2.heap.size + 1) (us constL).toArray (by rfl) rfl 53 zeros80 (blk_setRow_far (by simpa using heap_alloc_new (w2.alloc (.cells zeros80 53)) _) _ (by omega)) (SZ80.out constL constL_len) (by rfl) (us_one constL) ?_;
       have hgw : ((((w2.alloc (.cells zeros80 53)).alloc (.cells zeros80 53)).setRow w2.heap.size (us W).toArray).setRow (w2.heap.size + 1) (us constL).toArray).heap[w2.heap.size]? = some (.cells (us W).toArray 53) := blk_setRow_far (heap_setRow_same (blk_alloc (heap_alloc_new w2 _) _) _) _ (by omega);
       have hgk : ((((w2.alloc (.cells zeros80 53)).alloc (.cells zeros80 53)).setRow w2.heap.size (us W).toArray).setRow (w2.heap.size + 1) (us constL).toArray).heap[w2.heap.size + 1]? = some (.cells (us constL).toArray 53) := heap_setRow_same (blk_setRow_far (by simpa using heap_alloc_new (w2.alloc (.cells zeros80 53)) _) _ (by omega)) _;
       have hs2 : w.heap.size ≤ w2.heap.size := HB2.out.size;
       have hst : St ((((w2.alloc (.cells zeros80 53)).alloc (.cells zeros80 53)).setRow w2.heap.size (us W).toArray).setRow (w2.heap.size + 1) (us constL).toArray) g H left n := blk_setRow_far (blk_setRow_far (blk_alloc (blk_alloc HG2.out _) _) _ (by omega)) _ (by omega);
       have htc := ((HB2.out.belowMore (((Below.refl w.heap.size w2).alloc hs2 (.cells zeros80 53)).alloc (by simp; omega) (.cells zeros80 53))).setRow hs2 (us W).toArray).setRow (k := w2.heap.size + 1) (by omega) (us constL).toArray;
       have hsz : ((((w2.alloc (.cells zeros80 53)).alloc (.cells zeros80 53)).setRow w2.heap.size (us W).toArray).setRow (w2.heap.size + 1) (us constL).toArray).heap.size = w2.heap.size + 2 := by simp [World.setRow];
       generalize (((w2.alloc (.cells zeros80 53)).alloc (.cells zeros80 53)).setRow w2.heap.size (us W).toArray).setRow (w2.heap.size + 1) (us constL).toArray = w3 at hgw hgk hst htc hsz ⊢;
       have HGW := Lib.hid hgw; have HGK := Lib.hid hgk; have HG3 := Lib.hid hst; have HT3 := Lib.hid htc; have HS3 := Lib.hid hsz; clear hgw hgk hst htc hsz HB1 HB2 HG2 HG)
    | (refine wpList_load_mid rfl 44 (.tmp 18) rfl g 0 rfl (us H) _ HG3.out.range Try.underlying44 rfl (SZ8'.out H HH.out) ?_)
    | (refine wpList_store_row rfl 44 (.tmp 6) (.tmp 19) rfl w3.heap.size (us H).toArray rfl rfl 44 zeros8 (heap_alloc_new w3 _) (SZ8.out H HH.out) (by rw [show (us H).toArray.size = 8 by simp [us, HH.out]]; rfl) (us_one H) ?_; rw [World.setRow_alloc_new]))
  generalize hT : mixV W 80 0 H = T
  have HT := Lib.hid (And.intro hT trivial)
  have HM3 := Lib.hid (show MixAt w (w3.alloc (.cells (us H).toArray 44)) g w2.heap.size (w2.heap.size + 1) w3.heap.size H left n W H from
    ⟨heap_alloc_new w3 _, blk_alloc HGW.out _, blk_alloc HGK.out _, blk_alloc HG3.out _, HT3.out.belowMore ((Below.refl _ _).alloc HT3.out.size _)⟩)
  have HFT := Lib.hid (show addV T 8 0 H = F ∧ True from ⟨by rw [← hT, ← HW.out.1]; exact HF.out.1, trivial⟩)
  clear hT HGW HGK HG3 HT3 hz hz8
  generalize w3.alloc (.cells (us H).toArray 44) = w6 at HM3 ⊢
  go_loopw [20] (fun vi wr => ∃ (i : Nat) (V : List (BitVec 64)), i ≤ 80 ∧ vi = .int .i64 i ∧ Hid (V.length = 8) ∧ Hid (mixV W (80 - i) i V = T ∧ True) ∧ Hid (MixAt w wr g w2.heap.size (w2.heap.size + 1) w3.heap.size H left n W V)) (fun vi _ => 80 - (intOf vi).toNat)
  case atStart => exact ⟨0, H, by omega, rfl, HH, HT, HM3⟩
  case round =>
    clear HM3 HT
    obtain ⟨i, V, hi, rfl, hV, hX, HM⟩ := hrel
    by_cases hlt : i < 80
    · obtain ⟨v0, v1, v2, v3, v4, v5, v6, v7, rfl⟩ := len8 hV.out
      have p0 : (0 : Int) ≤ (i : Int) := by omega
      have q0 : (i : Int) < 80 := by omega
      obtain ⟨wi, hwi⟩ : ∃ x, W.getD i 0 = x := ⟨_, rfl⟩
      obtain ⟨ki, hki⟩ : ∃ x, constL.getD i 0 = x := ⟨_, rfl⟩
      have HWI := Lib.hid hwi
      have HKI := Lib.hid hki
      clear hwi hki
      have c0 : wr.cell? ⟨w3.heap.size, 0, none⟩ = some (.int .u64 (v0.toNat : Int)) := us_cell HM.out.v 0 (by simp)
      have c1 : wr.cell? ⟨w3.heap.size, 1, none⟩ = some (.int .u64 (v1.toNat : Int)) := us_cell HM.out.v 1 (by simp)
      have c2 : wr.cell? ⟨w3.heap.size, 2, none⟩ = some (.int .u64 (v2.toNat : Int)) := us_cell HM.out.v 2 (by simp)
      have c3 : wr.cell? ⟨w3.heap.size, 3, none⟩ = some (.int .u64 (v3.toNat : Int)) := us_cell HM.out.v 3 (by simp)
      have c4 : wr.cell? ⟨w3.heap.size, 4, none⟩ = some (.int .u64 (v4.toNat : Int)) := us_cell HM.out.v 4 (by simp)
      have c5 : wr.cell? ⟨w3.heap.size, 5, none⟩ = some (.int .u64 (v5.toNat : Int)) := us_cell HM.out.v 5 (by simp)
      have c6 : wr.cell? ⟨w3.heap.size, 6, none⟩ = some (.int .u64 (v6.toNat : Int)) := us_cell HM.out.v 6 (by simp)
      have c7 : wr.cell? ⟨w3.heap.size, 7, none⟩ = some (.int .u64 (v7.toNat : Int)) := us_cell HM.out.v 7 (by simp)
      have cw : wr.cell? ⟨w2.heap.size, i, none⟩ = some (.int .u64 (wi.toNat : Int)) := by rw [← HWI.out]; exact us_cell HM.out.w4 i (by rw [HWL.out]; omega)
      have ck : wr.cell? ⟨w2.heap.size + 1, i, none⟩ = some (.int .u64 (ki.toNat : Int)) := by rw [← HKI.out]; exact us_cell HM.out.k5 i (by rw [constL_len]; omega)
      go_wp2
      go_quiet (fail)
      have hm' := HM.out.drewN nq
      clear HM c0 c1 c2 c3 c4 c5 c6 c7 cw ck
      generalize wr.drewN nq = wr at hm' ⊢
      have HM := Lib.hid hm'
      clear hm'
      have c0 : wr.cell? ⟨w3.heap.size, 0, none⟩ = some (.int .u64 (v0.toNat : Int)) := us_cell HM.out.v 0 (by simp)
      have c1 : wr.cell? ⟨w3.heap.size, 1, none⟩ = some (.int .u64 (v1.toNat : Int)) := us_cell HM.out.v 1 (by simp)
      have c2 : wr.cell? ⟨w3.heap.size, 2, none⟩ = some (.int .u64 (v2.toNat : Int)) := us_cell HM.out.v 2 (by simp)
      have c3 : wr.cell? ⟨w3.heap.size, 3, none⟩ = some (.int .u64 (v3.toNat : Int)) := us_cell HM.out.v 3 (by simp)
      have c4 : wr.cell? ⟨w3.heap.size, 4, none⟩ = some (.int .u64 (v4.toNat : Int)) := us_cell HM.out.v 4 (by simp)
      have c5 : wr.cell? ⟨w3.heap.size, 5, none⟩ = some (.int .u64 (v5.toNat : Int)) := us_cell HM.out.v 5 (by simp)
      have c6 : wr.cell? ⟨w3.heap.size, 6, none⟩ = some (.int .u64 (v6.toNat : Int)) := us_cell HM.out.v 6 (by simp)
      have c7 : wr.cell? ⟨w3.heap.size, 7, none⟩ = some (.int .u64 (v7.toNat : Int)) := us_cell HM.out.v 7 (by simp)
      have cw : wr.cell? ⟨w2.heap.size, i, none⟩ = some (.int .u64 (wi.toNat : Int)) := by rw [← HWI.out]; exact us_cell HM.out.w4 i (by rw [HWL.out]; omega)
      have ck : wr.cell? ⟨w2.heap.size + 1, i, none⟩ = some (.int .u64 (ki.toNat : Int)) := by rw [← HKI.out]; exact us_cell HM.out.k5 i (by rw [constL_len]; omega)
      go_wp2
      go_quiet ((go_at_call 32; exact quiet_any (turn_i _ _ (by omega) (by omega) _)))
      have hm' := HM.out.drewN nq
      clear HM c0 c1 c2 c3 c4 c5 c6 c7 cw ck
      generalize wr.drewN nq = wr at hm' ⊢
      have HM := Lib.hid hm'
      clear hm'
      simp only [Int.reduceToNat, u_xor, u_and, u_not, u_add]
      generalize hone : v7 + (R 14 v4 ^^^ R 18 v4 ^^^ R 41 v4) + ((v4 &&& v5) ^^^ (~~~v4 &&& v6)) + ki + wi = one
      have HONE := Lib.hid hone
      clear hone
      have c0 : wr.cell? ⟨w3.heap.size, 0, none⟩ = some (.int .u64 (v0.toNat : Int)) := us_cell HM.out.v 0 (by simp)
      have c1 : wr.cell? ⟨w3.heap.size, 1, none⟩ = some (.int .u64 (v1.toNat : Int)) := us_cell HM.out.v 1 (by simp)
      have c2 : wr.cell? ⟨w3.heap.size, 2, none⟩ = some (.int .u64 (v2.toNat : Int)) := us_cell HM.out.v 2 (by simp)
      have c3 : wr.cell? ⟨w3.heap.size, 3, none⟩ = some (.int .u64 (v3.toNat : Int)) := us_cell HM.out.v 3 (by simp)
      have c4 : wr.cell? ⟨w3.heap.size, 4, none⟩ = some (.int .u64 (v4.toNat : Int)) := us_cell HM.out.v 4 (by simp)
      have c5 : wr.cell? ⟨w3.heap.size, 5, none⟩ = some (.int .u64 (v5.toNat : Int)) := us_cell HM.out.v 5 (by simp)
      have c6 : wr.cell? ⟨w3.heap.size, 6, none⟩ = some (.int .u64 (v6.toNat : Int)) := us_cell HM.out.v 6 (by simp)
      have c7 : wr.cell? ⟨w3.heap.size, 7, none⟩ = some (.int .u64 (v7.toNat : Int)) := us_cell HM.out.v 7 (by simp)
      have cw : wr.cell? ⟨w2.heap.size, i, none⟩ = some (.int .u64 (wi.toNat : Int)) := by rw [← HWI.out]; exact us_cell HM.out.w4 i (by rw [HWL.out]; omega)
      have ck : wr.cell? ⟨w2.heap.size + 1, i, none⟩ = some (.int .u64 (ki.toNat : Int)) := by rw [← HKI.out]; exact us_cell HM.out.k5 i (by rw [constL_len]; omega)
      go_wp2
      go_quiet ((go_at_call 32; exact quiet_any (turn_i _ _ (by omega) (by omega) _)))
      have hm' := HM.out.drewN nq
      clear HM c0 c1 c2 c3 c4 c5 c6 c7 cw ck
      generalize wr.drewN nq = wr at hm' ⊢
      have HM := Lib.hid hm'
      clear hm'
      simp only [Int.reduceToNat, u_xor, u_and, u_not, u_add]
      generalize htwo : (R 28 v0 ^^^ R 34 v0 ^^^ R 39 v0) + ((v0 &&& v1) ^^^ (v0 &&& v2) ^^^ (v1 &&& v2)) = two
      have HTWO := Lib.hid htwo
      clear htwo
      have c0 : wr.cell? ⟨w3.heap.size, 0, none⟩ = some (.int .u64 (v0.toNat : Int)) := us_cell HM.out.v 0 (by simp)
      have c1 : wr.cell? ⟨w3.heap.size, 1, none⟩ = some (.int .u64 (v1.toNat : Int)) := us_cell HM.out.v 1 (by simp)
      have c2 : wr.cell? ⟨w3.heap.size, 2, none⟩ = some (.int .u64 (v2.toNat : Int)) := us_cell HM.out.v 2 (by simp)
      have c3 : wr.cell? ⟨w3.heap.size, 3, none⟩ = some (.int .u64 (v3.toNat : Int)) := us_cell HM.out.v 3 (by simp)
      have c4 : wr.cell? ⟨w3.heap.size, 4, none⟩ = some (.int .u64 (v4.toNat : Int)) := us_cell HM.out.v 4 (by simp)
      have c5 : wr.cell? ⟨w3.heap.size, 5, none⟩ = some (.int .u64 (v5.toNat : Int)) := us_cell HM.out.v 5 (by simp)
      have c6 : wr.cell? ⟨w3.heap.size, 6, none⟩ = some (.int .u64 (v6.toNat : Int)) := us_cell HM.out.v 6 (by simp)
      have c7 : wr.cell? ⟨w3.heap.size, 7, none⟩ = some (.int .u64 (v7.toNat : Int)) := us_cell HM.out.v 7 (by simp)
      have cw : wr.cell? ⟨w2.heap.size, i, none⟩ = some (.int .u64 (wi.toNat : Int)) := by rw [← HWI.out]; exact us_cell HM.out.w4 i (by rw [HWL.out]; omega)
      have ck : wr.cell? ⟨w2.heap.size + 1, i, none⟩ = some (.int .u64 (ki.toNat : Int)) := by rw [← HKI.out]; exact us_cell HM.out.k5 i (by rw [constL_len]; omega)
      go_wp2_with (refine wpList_store_row rfl 44 (.tmp 6) (.tmp 98) rfl w3.heap.size (cells8 (IntKind.u64.wrap ((one.toNat : Int) + (two.toNat : Int))) (v0.toNat : Int) (v1.toNat : Int) (v2.toNat : Int) (IntKind.u64.wrap ((v3.toNat : Int) + (one.toNat : Int))) (v4.toNat : Int) (v5.toNat : Int) (v6.toNat : Int)) (by rfl) (by rfl) 44 (us [v0, v1, v2, v3, v4, v5, v6, v7]).toArray HM.out.v (cells8_info _ _ _ _ _ _ _ _) (cells8_size _ hV.out _ _ _ _ _ _ _ _) (cells8_one _ _ _ _ _ _ _ _) ?_)
      go_roundw
      case rel =>
        refine ⟨i + 1, rnd ki wi [v0, v1, v2, v3, v4, v5, v6, v7], by omega, by go_num, Lib.hid (rnd_len _ _ _), Lib.hid ⟨?_, trivial⟩, Lib.hid (HM.out.put (by have := HS3.out; omega) hgs (by have := HS3.out; omega) (by have := HS3.out; omega) _ _ ?_)⟩
        · rw [← hX.out.1, show 80 - i = (80 - (i + 1)) + 1 by omega, mixV, HWI.out, HKI.out]
        · rw [cells8, u_add, u_add, ← HONE.out, ← HTWO.out]; rfl
      case measure => simp [intOf]; omega
    · obtain rfl : i = 80 := by omega
      simp only [Int.cast_ofNat_Int]
      obtain rfl : V = T := hX.out.1
      clear hX
      go_wp2
      go_loopw [100] (fun vi wq => ∃ (j : Nat) (X : List (BitVec 64)), j ≤ 8 ∧ vi = .int .i64 j ∧ Hid (X.length = 8) ∧ Hid (addV V (8 - j) j X = F ∧ True) ∧ Hid (MixAt w wq g w2.heap.size (w2.heap.size + 1) w3.heap.size X left n W V)) (fun vi _ => 8 - (intOf vi).toNat)
      case atStart => exact ⟨0, H, by omega, rfl, HH, HFT, HM⟩
      case round =>
        clear HM HFT
        obtain ⟨j, X, hj, rfl, hXl, hX, HM⟩ := hrel
        by_cases hjl : j < 8
        · have p0 : (0 : Int) ≤ (j : Int) := by omega
          have q0 : (j : Int) < 8 := by omega
          obtain ⟨xj, hxj⟩ : ∃ x, X.getD j 0 = x := ⟨_, rfl⟩
          obtain ⟨vj, hvj⟩ : ∃ x, V.getD j 0 = x := ⟨_, rfl⟩
          have HXJ := Lib.hid hxj
          have HVJ := Lib.hid hvj
          clear hxj hvj
          have hm := Lib.hid (show MixAt w wr.drew g w2.heap.size (w2.heap.size + 1) w3.heap.size X left n W V from HM.out.drewN 1)
          have c0 : wr.cell? ⟨g, j, none⟩ = some (.int .u64 (xj.toNat : Int)) := by rw [← HXJ.out]; exact HM.out.st.word j (by rw [hXl.out]; omega)
          have c1 : wr.cell? ⟨w3.heap.size, j, none⟩ = some (.int .u64 (vj.toNat : Int)) := by rw [← HVJ.out]; exact us_cell HM.out.v j (by rw [hV.out]; omega)
          go_wp2
          go_still_tail 13, (by kernel_rfl)
          change wpList _ _ _ _ _ wr.drew
          have d0 : wr.drew.cell? ⟨g, j, none⟩ = some (.int .u64 (xj.toNat : Int)) := c0
          clear HM c0 c1
          generalize wr.drew = w5 at hm d0 ⊢
          have df : w5.frozen? ⟨g, j, none⟩ = false := hm.out.st.free j
          go_wp2
          go_roundw
          case rel =>
            exact ⟨j + 1, X.set j (xj + vj), by omega, by go_num, Lib.hid (by rw [List.length_set]; exact hXl.out), Lib.hid ⟨by rw [← hX.out.1, show 8 - j = (8 - (j + 1)) + 1 by omega, addV, HXJ.out, HVJ.out], trivial⟩, Lib.hid (hm.out.word hgs hs2 (by omega) (by have := HS3.out; omega) j (by rw [hXl.out]; omega) _ _ (by simp only [u_add]))⟩
          case measure => simp [intOf]; omega
        · obtain rfl : j = 8 := by omega
          obtain rfl : X = F := hX.out.1
          go_wp2
          go_end0
          exact ⟨rfl, HM.out.st, HM.out.tch⟩
end Go.Proofs.Ytkodmicocjklcaa
