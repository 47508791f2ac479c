/- rhzlaw7.FrameFeeds: the walk: whatever came in, the call answers true and writes nothing that was there. -/
import Derived.Test.YtkcffggjggedjaaFrTwo
namespace Go.Proofs.Ytkcffggjggedjaa
open Go.RowKit

/-- A list of lists of slices of bytes that is read. -/
def Rows2 (w : World) (A : Option Addr) (lss : List (List (List Int))) : Prop :=
  lss ≠ [] → ∃ b off, A = some ⟨b, off, none⟩ ∧ ∀ j, j < lss.length → ∃ A' c, w.cell? ⟨b, off + j, none⟩ = some (.slice A' (lss.getD j []).length c) ∧ Rows w A' (lss.getD j [])
theorem Rows2.look {w : World} {A : Option Addr} {lss : List (List (List Int))} (h : Rows2 w A lss) {j : Nat} (hj : j < lss.length) :
    ∃ b off A' c, A = some ⟨b, off, none⟩ ∧ w.cell? ⟨b, off + j, none⟩ = some (.slice A' (lss.getD j []).length c) ∧ Rows w A' (lss.getD j []) := by
  obtain ⟨b, off, rfl, hc⟩ := h (by intro h; rw [h] at hj; simp at hj)
  obtain ⟨A', c, h1, h2⟩ := hc j hj
  exact ⟨b, off, A', c, rfl, h1, h2⟩
def tot2 (lss : List (List (List Int))) : Nat := (lss.map tot).sum
theorem tot2_cons (x : List (List Int)) (l : List (List (List Int))) : tot2 (x :: l) = tot x + tot2 l := by simp [tot2]
theorem tot_le : ∀ {ls : List (List Int)}, (∀ l ∈ ls, l.length ≤ 140737488351232) → tot ls ≤ ls.length * 140737488351232
  | [], _ => by simp [tot]
  | x :: r, h => by
    have h1 := tot_le (fun l hl => h l (List.mem_cons_of_mem _ hl))
    have h2 := h x (by simp)
    rw [tot_cons, List.length_cons, Nat.add_mul]; omega

theorem tot2_take {l : List (List (List Int))} {k : Nat} (h : k < l.length) : tot2 (l.take (k + 1)) = tot2 (l.take k) + tot (l.getD k []) := by
  rw [List.take_succ_eq_append_getElem h, tot2, tot2, List.map_append, List.sum_append, List.getD_eq_getElem?_getD, List.getElem?_eq_getElem h]
  simp

/-- What the law's first loop has seen. -/
def Small (lss : List (List (List Int))) : Prop := (∀ ls ∈ lss, ls.length ≤ 100) ∧ tot2 lss ≤ 140000

set_option maxRecDepth 20000 in
set_option maxHeartbeats 4000000 in
theorem feeds_walk (most : Int) (A : Option Addr) (lss : List (List (List Int))) (ca : Nat) (w : World) (hl : lss.length ≤ maxLen) (hm : ∀ ls ∈ lss, ls.length ≤ maxLen ∧ ∀ l ∈ ls, l.length ≤ 140737488351232 ∧ Byt l) (hA : Rows2 w A lss) :
    Calls Try.prog 5 #[.int .i64 most, .slice A lss.length ca] w fun e w' => e = .returned (.bool true) ∧ Below w.heap.size w w' := by
  have hB0 := Below.refl w.heap.size w
  have HA := Lib.hid hA
  have HM := Lib.hid hm
  have hl' : (lss.length : Int) ≤ 9223372036854775807 := by unfold maxLen at hl; omega
  clear hA hm hl
  by_cases h100 : 100 < lss.length
  · go_enter Try.func5, Try.ntmps5
    go_wp2_with (go_at_call 8; refine (first_any _).mono ?_; rintro e w1 ⟨rfl, hb1⟩; replace hB0 := below_then hB0 hb1; clear hb1)
    go_ret
    exact ⟨rfl, hB0⟩
  · go_enter Try.func5, Try.ntmps5
    go_wp2_with (go_at_call 8; refine (first_any _).mono ?_; rintro e w1 ⟨rfl, hb1⟩; replace hB0 := below_then hB0 hb1; clear hb1)
    have HB0 := Lib.hid hB0
    clear hB0
    go_loop [5, 6] (fun vn vi => ∃ (k n : Nat), k ≤ lss.length ∧ vn = .int .i64 n ∧ vi = .int .i64 k ∧ n ≤ 140000 ∧ Hid (n = tot2 (lss.take k) ∧ ∀ j, j < k → (lss.getD j []).length ≤ 100)) (fun _ vi => lss.length - (intOf vi).toNat)
    case atStart => exact ⟨0, 0, by omega, rfl, rfl, by omega, Lib.hid ⟨rfl, fun j hj => by omega⟩⟩
    case round =>
      obtain ⟨k, n, hk, rfl, rfl, hn, hr⟩ := hrel
      by_cases hlt : k < lss.length
      · obtain ⟨b1, o1, A1, c1, hAe, hcw, hrw⟩ := HA.out.look hlt
        subst hAe
        have hmem : lss.getD k [] ∈ lss := by rw [List.getD_eq_getElem?_getD, List.getElem?_eq_getElem hlt]; exact List.getElem_mem hlt
        have hm1 := HM.out _ hmem
        have HTK := Lib.hid (tot2_take hlt)
        have HGK := Lib.hid (show lss.getD k [] = lss.getD k [] from rfl)
        generalize hxs : lss.getD k [] = xs at hcw hrw hm1 HTK HGK
        have HXS := Lib.hid hxs
        have HRW := Lib.hid hrw
        have HM1 := Lib.hid hm1
        have hbl := World.block_lt_of_cell? w _ hcw
        have hcx := (HB0.out.cell hbl).trans hcw
        have hfl : fewF xs = true → xs.length ≤ 100 := few_len
        generalize hfew : fewF xs = b at hfl
        have HF := Lib.hid hfew
        clear hfew hxs hrw hm1 hcw hmem
        rcases b with _ | _
        · clear hfl
          have hB1 := HB0.out
          go_wp2_with (first
            | (go_at_call 8; refine (first_any _).mono ?_; rintro e w2 ⟨rfl, hb2⟩; replace hB1 := below_then hB1 hb2; clear hb2)
            | (go_at_call 9; refine (few_any A1 xs c1 _ HM1.out.1 (HRW.out.below HB0.out) (fun l h => by have := (HM1.out.2 l h).1; unfold maxLen; omega)).mono ?_; rw [HF.out]; rintro e w2 ⟨rfl, rfl⟩))
          go_ret
          exact ⟨rfl, hB1⟩
        · have hx100 := hfl rfl
          clear hfl
          have htx : tot xs ≤ 14073748835123200 := by have := tot_le (fun l h => (HM1.out.2 l h).1); omega
          go_wp2_with (go_at_call 9; refine (few_any A1 xs c1 _ HM1.out.1 (HRW.out.below HB0.out) (fun l h => by have := (HM1.out.2 l h).1; unfold maxLen; omega)).mono ?_; rw [HF.out]; rintro e w2 ⟨rfl, rfl⟩)
          go_loop [5, 7] (fun vn vj => ∃ (j m : Nat), j ≤ xs.length ∧ vn = .int .i64 m ∧ vj = .int .i64 j ∧ m ≤ n + tot xs ∧ Hid (m + tot (xs.drop j) = n + tot xs)) (fun _ vj => xs.length - (intOf vj).toNat)
          case atStart => exact ⟨0, n, by omega, rfl, rfl, by omega, rfl⟩
          case round =>
            obtain ⟨j, m, hj, rfl, rfl, hmn, hs⟩ := hrel
            by_cases hjl : j < xs.length
            · obtain ⟨b2, o2, A2, c2, hAe, hcy, _, _⟩ := (HRW.out.below HB0.out).look hjl
              subst hAe
              have hd := hs.out
              rw [drop_get [] xs hjl, tot_cons] at hd
              generalize xs.getD j [] = x at hcy hd
              have hxl : m + x.length ≤ n + tot xs := by omega
              have HD := Lib.hid hd
              clear hd
              go_wp2
              go_round
              case rel => exact ⟨j + 1, m + x.length, by omega, by go_num, by go_num, by omega, Lib.hid (by have := HD.out; omega)⟩
              case measure => simp [intOf]; omega
            · obtain rfl : j = xs.length := by omega
              have hm2 : m = n + tot xs := by have := hs.out; rw [List.drop_eq_nil_of_le (Nat.le_refl _)] at this; simpa [tot] using this
              by_cases hbig : 140000 < m
              · have hB1 := HB0.out
                clear hm2
                go_wp2_with (go_at_call 8; refine (first_any _).mono ?_; rintro e w2 ⟨rfl, hb2⟩; replace hB1 := below_then hB1 hb2; clear hb2)
                go_ret
                exact ⟨rfl, hB1⟩
              · have HM2 := Lib.hid hm2
                clear hm2
                go_wp2
                go_round
                case rel => exact ⟨k + 1, m, by omega, rfl, by go_num, by omega, Lib.hid ⟨by rw [HTK.out, HM2.out, hr.out.1], fun i hi => by
                  rcases Nat.lt_or_ge i k with h | h
                  · exact hr.out.2 i h
                  · obtain rfl : i = k := by omega
                    rw [HXS.out]; exact hx100⟩⟩
                case measure => simp [intOf]; omega
      · obtain rfl : k = lss.length := by omega
        have HS := Lib.hid (show (∀ j, j < lss.length → (lss.getD j []).length ≤ 100) ∧ tot2 lss ≤ 140000 from ⟨hr.out.2, by have := hr.out.1; rw [List.take_length] at this; omega⟩)
        clear hr hn
        go_wp2_with (first
          | (go_at_call 17; refine (newReader_any _ _).mono ?_; rintro e w2 ⟨rfl, hw2⟩; have hr2 : RdA w2 w1.heap.size most 0 (.slice none 0 0) false := (by rw [hw2]; exact heap_alloc_new w1 _); have hb2 : Below w1.heap.size w1 w2 := (by rw [hw2]; exact (Below.refl _ w1).alloc (Nat.le_refl _) _); have HG := Lib.hid (show w.heap.size ≤ w1.heap.size from HB0.out.size); have HR := Lib.hid hr2; have HB := Lib.hid (below_then HB0.out hb2); clear hr2 hb2 hw2)
          | (go_at_call 18; refine (newFrame_any _ _).mono ?_; rintro e w3 ⟨rfl, hw3⟩; have hr3 : RdB w3 w2.heap.size most 0 (.slice none 0 0) false := (by rw [hw3]; exact heap_alloc_new w2 _); have hb3 : Below w2.heap.size w2 w3 := (by rw [hw3]; exact (Below.refl _ w2).alloc (Nat.le_refl _) _); have HG2 := Lib.hid (show w.heap.size ≤ w2.heap.size from HB.out.size); have HT := Lib.hid (show Two w w1.heap.size w2.heap.size most 0 false [] (.slice none 0 0) (.slice none 0 0) w3 from ⟨blk_below HR.out hb3, hr3, World.ownsRow_nil _ _ _ _, World.ownsRow_nil _ _ _ _, fun n hn => by simp [Value.ownBlock] at hn, byt_nil, by simp, below_then HB.out hb3⟩); clear hr3 hb3 hw3 HR HB))
        generalize w1.heap.size = g at HG HT ⊢
        generalize w2.heap.size = g2 at HG2 HT ⊢
        go_loopw [10] (fun vi wr => ∃ (k : Nat) (h : Int) (ov : Bool) (A1 : Option Addr) (b : List Int) (c1 : Nat) (A2 : Option Addr) (c2 : Nat), k ≤ lss.length ∧ vi = .int .i64 k ∧ 0 ≤ h ∧ Hid (h + tot2 (lss.drop k) ≤ 140000) ∧ Hid (Two w g g2 most h ov b (.slice A1 b.length c1) (.slice A2 b.length c2) wr)) (fun vi _ => lss.length - (intOf vi).toNat)
        case atStart => exact ⟨0, 0, false, none, [], 0, none, 0, by omega, rfl, by omega, Lib.hid (by have := HS.out.2; simp; omega), HT⟩
        case round =>
          clear HT
          obtain ⟨k, h, ov, A1, b, c1, A2, c2, hk, rfl, hh0, hs, ht⟩ := hrel
          by_cases hlt : k < lss.length
          · obtain ⟨b1, o1, A3, c3, hAe, hcw, hrw⟩ := HA.out.look hlt
            subst hAe
            have hmem : lss.getD k [] ∈ lss := by rw [List.getD_eq_getElem?_getD, List.getElem?_eq_getElem hlt]; exact List.getElem_mem hlt
            have hm1 := HM.out _ hmem
            have hx100 := HS.out.1 k hlt
            have hd := hs.out
            rw [drop_get [] lss hlt, tot2_cons] at hd
            generalize lss.getD k [] = xs at hcw hrw hm1 hx100 hd
            have hbl := World.block_lt_of_cell? w _ hcw
            have HC := Lib.hid (fun (W : World) (hW : Below w.heap.size w W) => (hW.cell hbl).trans hcw)
            have hc := HC.out wr ht.out.bel
            have hbh := ht.out.len
            have hsz : b.length + tot xs ≤ 268435456 := by omega
            have hH : h + tot xs ≤ 140000 := by omega
            have HD := Lib.hid (show (h + (tot xs : Int)) + tot2 (lss.drop (k + 1)) ≤ 140000 by omega)
            have hyl : ∀ l ∈ xs, Byt l := fun l hl => (hm1.2 l hl).2
            have hfb := fedF_byt (most := most) (had := h) (over := ov) ht.out.byt hyl
            have HFA := Lib.hid (feedA_any g most h _ b ov A3 xs c3 wr (by omega) hh0 (by omega) hsz ht.out.ra (World.ownsRow.mono ht.out.oa (Nat.zero_le _)) ht.out.byt hyl (fun wq hq => hrw.below (ht.out.tchA HG.out hq)))
            have HFB := Lib.hid (fun (w3 : World) (hq3 : Tch g (Value.slice A1 b.length c1).ownBlock wr w3) => feedB_any g2 most h _ b ov A3 xs c3 w3 (by omega) hh0 (by omega) hsz (ht.out.second hq3).1 (World.ownsRow.mono (ht.out.second hq3).2 (Nat.zero_le _)) ht.out.byt hyl (fun wq hq => hrw.below ((ht.out.tchA HG.out hq3).trans (hq.toBelow (ht.out.tchA HG.out hq3).size HG2.out (fun n hn => (World.ownsRow.lt (ht.out.second hq3).2 n hn).1)))))
            generalize fedF most h b ov xs = R at HFA HFB hfb
            obtain ⟨out, b', ov', er⟩ := R
            simp only at hfb
            have hbl' : (b'.length : Int) ≤ h + tot xs := by have := hfb.2.2.1; omega
            have hout : out.length ≤ 268435456 := by have := hfb.2.2.2; omega
            have HFBY := Lib.hid hfb
            have HXS := Lib.hid hrw
            clear hcw hrw hm1 hd hmem hyl hfb hs
            go_wp2_with (first
              | (go_at_call 19; refine HFA.out.mono ?_; rintro e w3 ⟨ht3, vo, A4, c4, mid, rfl, hr3, hm1, hm2, ho3, hom3⟩; have HT3 := Lib.hid ht3; have hc3 := HC.out w3 (ht.out.tchA HG.out ht3); have HR3 := Lib.hid hr3; have HM1 := Lib.hid hm1; have HM2 := Lib.hid hm2; have HO3 := Lib.hid ho3; have HOM3 := Lib.hid hom3; clear ht3 hr3 hm1 hm2 ho3 hom3)
              | (go_at_call 20; refine (HFB.out w3 HT3.out).mono ?_; rintro e w4 ⟨ht4, vo2, A5, c5, mid2, rfl, hr4, hm3, hm4, ho4, hom4⟩; obtain ⟨hTW, hOM, hv1, hv2⟩ := ht.out.both HG2.out HG.out HT3.out ht4 HR3.out HM1.out HM2.out HO3.out HOM3.out hr4 hm3 ho4 HFBY.out.2.1 hbl'; obtain ⟨A6, c6, hv6, _, hr6⟩ := hOM.own.own.rows; obtain ⟨A7, c7, hv7, _, hr7⟩ := hom4.own.own.rows; subst hv6; subst hv7; have HTW := Lib.hid hTW; have HOM := Lib.hid hOM; have HV1 := Lib.hid hv1; have HV2 := Lib.hid hv2; have HR6 := Lib.hid hr6; have HR7 := Lib.hid hr7; clear hTW hOM hv1 hv2 hr6 hr7 ht4 hr4 hm3 hm4 ho4 hom4 HR3 HM1 HM2 HO3 HOM3 HT3)
              | (go_at_call 15; refine (lists_same A6 A7 out c6 c7 w4 (by have := HFBY.out.2.2.2; omega) HR6.out HR7.out).mono ?_; rintro e w5 ⟨rfl, hb5⟩; have HTW5 := Lib.hid (HTW.out.below hb5); have HOM5 := Lib.hid (HOM.out.below hb5); clear hb5)
              | (go_at_call 21; refine (leftA_any g _ _ _ _ _ _ _ HTW5.out.ra).mono ?_; rintro e w6 ⟨rfl, rfl⟩)
              | (go_at_call 22; refine (leftB_any g2 _ _ _ _ _ _ _ HTW5.out.rb).mono ?_; rintro e w6 ⟨rfl, rfl⟩))
            obtain ⟨vs, hvl, hsh, hmid⟩ := HOM5.out.shape HFBY.out.1
            have hbas := Lib.hid ht.out.bel.size
            have HD2 := Lib.hid (show 0 ≤ h + (tot xs : Int) by omega)
            clear HFA HFB HC hc hc3 hbl' hsz hH hbh HTW HOM HR6 HR7 HOM5 HFBY
            generalize wr.heap.size = base at hsh hbas
            generalize out.length = nl at hvl hsh hout ⊢
            subst hvl
            have HSH := Lib.hid hsh
            have HMID := Lib.hid hmid
            clear hsh hmid ht
            generalize h + (tot xs : Int) = hh at HTW5 HD HD2
            go_loopw [15] (fun vi wq => ∃ (i : Nat), i ≤ vs.length ∧ vi = .int .i64 i ∧ Hid (Shape base wq (.slice A6 vs.length c6) vs) ∧ Hid (Two w g g2 most hh ov' b' (.slice A4 b'.length c4) (.slice A5 b'.length c5) wq)) (fun vi _ => vs.length - (intOf vi).toNat)
            case atStart => exact ⟨0, by omega, rfl, HSH, HTW5⟩
            case round =>
              obtain ⟨i, hi, rfl, hS, hT⟩ := hrel
              by_cases hil : i < vs.length
              · obtain ⟨A8, nn, c8, hv, hn63⟩ := hS.out.elem hil
                obtain ⟨gr, cr, hgr, hcc⟩ := hS.out.cell hil
                obtain ⟨rfl, rfl⟩ : A6 = some ⟨gr, 0, none⟩ ∧ c6 = cr := by simp at hgr; exact hgr
                rw [hv] at hcc
                have HV := Lib.hid hv
                clear hv hgr
                go_wp2
                go_loopw [16] (fun vj wq => ∃ (j : Nat), j ≤ nn ∧ vj = .int .i64 j ∧ Hid (Shape base wq (.slice (some ⟨gr, 0, none⟩) vs.length c6) vs) ∧ Hid (Two w g g2 most hh ov' b' (.slice A4 b'.length c4) (.slice A5 b'.length c5) wq)) (fun vj _ => nn - (intOf vj).toNat)
                case atStart => exact ⟨0, by omega, rfl, hS, hT⟩
                case round =>
                  obtain ⟨j, hj, rfl, hS, hT⟩ := hrel
                  obtain ⟨gr', cr', hgr, hcc⟩ := hS.out.cell hil
                  obtain ⟨rfl, rfl⟩ : gr = gr' ∧ c6 = cr' := by simp at hgr; exact hgr
                  rw [HV.out] at hcc
                  clear hgr
                  by_cases hjn : j < nn
                  · obtain ⟨ge, x, hAe, hge, hcx, x0, x1, hfr, hst⟩ := hS.out.byte hil HV.out hjn
                    have hob : (vs.getD i (.bool false)).ownBlock = some ge := by rw [HV.out, hAe]; rfl
                    subst hAe
                    have HST := Lib.hid hst
                    have hgm := HMID.out i hil ge hob
                    obtain ⟨lq, _, hoq⟩ := hS.out.2 i hil
                    have HTS := Lib.hid (hT.out.store hoq hob hgm HV1.out HV2.out (Nat.le_trans hbas.out hge) j)
                    clear hst hoq hob hgm
                    go_wp2
                    go_roundw
                    case rel => exact ⟨j + 1, by omega, by go_num, Lib.hid (HST.out _ (by omega) (by omega)), Lib.hid (HTS.out _)⟩
                    case measure => simp [intOf]; omega
                  · obtain rfl : j = nn := by omega
                    go_wp2
                    go_roundw
                    case rel => exact ⟨i + 1, by omega, by go_num, hS, hT⟩
                    case measure => simp [intOf]; omega
              · obtain rfl : i = vs.length := by omega
                go_wp2
                go_roundw
                case rel => exact ⟨k + 1, hh, ov', A4, b', c4, A5, c5, by omega, by go_num, HD2.out, HD, hT⟩
                case measure => simp [intOf]; omega
          · obtain rfl : k = lss.length := by omega
            have hB1 := ht.out.bel
            go_wp2_with (go_at_call 8; refine (first_any _).mono ?_; rintro e w7 ⟨rfl, hb7⟩; replace hB1 := below_then hB1 hb7; clear hb7)
            go_ret
            exact ⟨rfl, hB1⟩
end Go.Proofs.Ytkcffggjggedjaa
