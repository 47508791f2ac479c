/- rhzlaw7.FrameReads: the walk: whatever came in, the call answers true and writes nothing that was there. -/
import Derived.Test.YtkcffggjggedjaaFrShape
namespace Go.Proofs.Ytkcffggjggedjaa
open Go.RowKit

theorem below_at {n : Nat} {w w1 w2 : World} (h : Below n w w1) (hn : n ≤ w1.heap.size) (k : Below w1.heap.size w1 w2) : Below n w w2 :=
  h.trans ⟨k.os, k.tape, k.output, k.size, fun i hi => k.block i (Nat.lt_of_lt_of_le hi hn)⟩
theorem few_len {ls : List (List Int)} (h : fewF ls = true) : ls.length ≤ 100 := by
  unfold fewF at h
  simp at h
  exact h.2

set_option maxHeartbeats 4000000 in
theorem reads_walk (A B : Option Addr) (ls : List (List Int)) (xs : List Int) (ca cb : Nat) (w : World) (hl : ls.length ≤ maxLen) (hm : ∀ l ∈ ls, l.length ≤ maxLen) (hx : xs.length ≤ maxLen) (hc : xs.length ≤ cb) (hy : Byt xs) (hA : Rows w A ls) (hB : Ints .u8 w B xs) :
    Calls Try.prog 3 #[.slice A ls.length ca, .slice B xs.length cb] w fun e w' => e = .returned (.bool true) ∧ Below w.heap.size w w' := by
  have hB0 := Below.refl w.heap.size w
  have HA := Lib.hid hA
  have HB := Lib.hid hB
  have HM := Lib.hid hm
  have HL := Lib.hid hl
  have HY := Lib.hid hy
  have hx' : (xs.length : Int) ≤ 9223372036854775807 := by unfold maxLen at hx; omega
  clear hA hB hm hl hy hx
  have hf : fewF ls = true → ls.length ≤ 100 := few_len
  generalize hfew : fewF ls = b at hf
  have HF := Lib.hid hfew
  clear hfew
  rcases b with _ | _
  · clear hf
    go_enter Try.func3, Try.ntmps3
    go_wp2_with (first
      | (go_at_call 8; refine (first_any _).mono ?_; rintro e w1 ⟨rfl, hb1⟩; replace hB0 := below_then hB0 hb1; clear hb1)
      | (go_at_call 9; refine (few_any A ls ca _ HL.out (HA.out.below hB0) HM.out).mono ?_; rw [HF.out]; rintro e w1 ⟨rfl, rfl⟩))
    go_ret
    exact ⟨rfl, hB0⟩
  · have hl100 := hf rfl
    clear hf
    by_cases hbig : 20000 < xs.length
    · go_enter Try.func3, Try.ntmps3
      go_wp2_with (first
        | (go_at_call 8; refine (first_any _).mono ?_; rintro e w1 ⟨rfl, hb1⟩; replace hB0 := below_then hB0 hb1; clear hb1)
        | (go_at_call 9; refine (few_any A ls ca _ HL.out (HA.out.below hB0) HM.out).mono ?_; rw [HF.out]; rintro e w1 ⟨rfl, rfl⟩))
      go_ret
      exact ⟨rfl, hB0⟩
    · have HTB := Lib.hid (takeR_byt xs.length xs (Nat.le_refl _) HY.out)
      have HTL := Lib.hid (takeR_le xs.length xs (Nat.le_refl _))
      generalize hfr : framesF [] ls = R
      generalize htk : takeR xs = T at HTB HTL
      obtain ⟨rx, re⟩ := R
      obtain ⟨tl, tn⟩ := T
      have htl : tl.length ≤ 10000 := by have := HTL.out; simp at this; omega
      have HFR := Lib.hid hfr
      have HTK := Lib.hid htk
      clear hfr htk HTL
      go_enter Try.func3, Try.ntmps3
      go_wp2_with (first
        | (go_at_call 8; refine (first_any _).mono ?_; rintro e w1 ⟨rfl, hb1⟩; replace hB0 := below_then hB0 hb1; clear hb1)
        | (go_at_call 9; refine (few_any A ls ca _ HL.out (HA.out.below hB0) HM.out).mono ?_; rw [HF.out]; rintro e w1 ⟨rfl, rfl⟩)
        | (go_at_call 10; refine (copy_any B xs cb _ (HB.out.below hB0) (by omega)).mono ?_; rintro e w1 ⟨v1, rfl, ho1, hb1⟩; obtain ⟨A1, c1, rfl, hc1, hi1⟩ := ho1.bv; have HI1 := Lib.hid hi1; replace hB0 := below_then hB0 hb1; clear hb1 ho1 hi1)
        | (go_at_call 11; refine (framePut_any A ls ca _ (by omega) (HA.out.below hB0)).mono ?_; rw [HFR.out]; rintro e w2 ⟨v2, rfl, ho2, hb2⟩; obtain ⟨A2, c2, rfl, hc2, hi2⟩ := ho2.bv; replace HI1 := Lib.hid (HI1.out.below hb2); have HI2 := Lib.hid hi2; replace hB0 := below_then hB0 hb2; clear hb2 ho2 hi2)
        | (go_at_call 12; refine (refFrames_any A ls ca _ (by omega) (HA.out.below hB0)).mono ?_; rw [HFR.out]; rintro e w3 ⟨v3, rfl, ho3, hb3⟩; obtain ⟨A3, c3, rfl, hc3, hi3⟩ := ho3.bv; replace HI1 := Lib.hid (HI1.out.below hb3); replace HI2 := Lib.hid (HI2.out.below hb3); have HI3 := Lib.hid hi3; replace hB0 := below_then hB0 hb3; clear hb3 ho3 hi3)
        | (go_at_call 13; refine (take_any A1 xs c1 _ (by omega) hc1 HY.out HI1.out).mono ?_; rw [HTK.out]; rintro e w4 ⟨v4, rfl, ho4, hb4⟩; obtain ⟨A4, c4, hv4, hc4, hr4⟩ := ho4.own.rows; subst hv4; have HBT := Lib.hid hb4; have HO4 := Lib.hid ho4; have HR4 := Lib.hid hr4; have HB4 := Lib.hid (below_then hB0 hb4); clear hb4 ho4 hr4)
        | (go_at_call 14; refine (refTake_any B xs cb _ (by omega) hc HY.out (HB.out.below HB4.out)).mono ?_; rw [HTK.out]; rintro e w5 ⟨v5, rfl, ho5, hb5⟩; obtain ⟨A5, c5, hv5, hc5, hr5⟩ := ho5.own.rows; subst hv5; replace HBT := Lib.hid (below_then HBT.out hb5); replace HO4 := Lib.hid (OwnE.below HO4.out hb5); replace HR4 := Lib.hid (HR4.out.below hb5); have HR5 := Lib.hid hr5; clear hb5 ho5 hr5)
        | (go_at_call 15; refine (lists_same A4 A5 tl c4 c5 _ (by omega) HR4.out HR5.out).mono ?_; rintro e w6 ⟨rfl, hb6⟩; replace HBT := Lib.hid (below_then HBT.out hb6); replace HO4 := Lib.hid (OwnE.below HO4.out hb6); clear hb6))
      obtain ⟨vs, hvl, hsh⟩ := HO4.out.shape HTB.out
      clear HR4 HR5 HO4 HTB HB4 hc4 hc5 hc3 hc2 hc1
      generalize tl.length = nl at hvl hsh htl ⊢
      subst hvl
      have HSH := Lib.hid hsh
      have HB3 := Lib.hid hB0
      clear hsh hB0
      go_loopw [15] (fun vi wr => ∃ (k : Nat), k ≤ vs.length ∧ vi = .int .i64 k ∧ Hid (Shape w3.heap.size wr (.slice A4 vs.length c4) vs) ∧ Hid (Below w3.heap.size w3 wr)) (fun vi _ => vs.length - (intOf vi).toNat)
      case atStart => exact ⟨0, by omega, rfl, HSH, HBT⟩
      case round =>
        obtain ⟨k, hk, rfl, hS, hB⟩ := hrel
        by_cases hlt : k < vs.length
        · obtain ⟨A6, n, c6, hv, hn63⟩ := hS.out.elem hlt
          obtain ⟨g, c', hg, hc⟩ := hS.out.cell hlt
          obtain ⟨rfl, rfl⟩ : A4 = some ⟨g, 0, none⟩ ∧ c4 = c' := by simp at hg; exact hg
          rw [hv] at hc
          have HV := Lib.hid hv
          clear hv hg
          go_wp2
          go_loopw [16] (fun vj wq => ∃ (j : Nat), j ≤ n ∧ vj = .int .i64 j ∧ Hid (Shape w3.heap.size wq (.slice (some ⟨g, 0, none⟩) vs.length c4) vs) ∧ Hid (Below w3.heap.size w3 wq)) (fun vj _ => n - (intOf vj).toNat)
          case atStart => exact ⟨0, by omega, rfl, hS, hB⟩
          case round =>
            obtain ⟨j, hj, rfl, hS, hB⟩ := hrel
            obtain ⟨g', c', hg, hc⟩ := hS.out.cell hlt
            obtain ⟨rfl, rfl⟩ : g = g' ∧ c4 = c' := by simp at hg; exact hg
            rw [HV.out] at hc
            clear hg
            by_cases hjn : j < n
            · obtain ⟨ge, x, rfl, hge, hcx, x0, x1, hfr, hst⟩ := hS.out.byte hlt HV.out hjn
              have HST := Lib.hid hst
              clear hst
              go_wp2
              go_roundw
              case rel =>
                refine ⟨j + 1, by omega, by go_num, Lib.hid (HST.out _ ?_ ?_), Lib.hid (hB.out.setCell hge _)⟩
                · omega
                · omega
              case measure => simp [intOf]; omega
            · obtain rfl : j = n := by omega
              go_wp2
              go_roundw
              case rel => exact ⟨k + 1, by omega, by go_num, hS, hB⟩
              case measure => simp [intOf]; omega
        · obtain rfl : k = vs.length := by omega
          have hB' := below_at HB3.out HB3.out.size hB.out
          clear HB3
          replace HI1 := Lib.hid (HI1.out.below hB.out)
          replace HI2 := Lib.hid (HI2.out.below hB.out)
          replace HI3 := Lib.hid (HI3.out.below hB.out)
          clear hS
          go_wp2_with (first
            | (go_at_call 8; refine (first_any _).mono ?_; rintro e w7 ⟨rfl, hb7⟩; replace hB' := below_then hB' hb7; replace HI1 := Lib.hid (HI1.out.below hb7); replace HI2 := Lib.hid (HI2.out.below hb7); replace HI3 := Lib.hid (HI3.out.below hb7); clear hb7)
            | (go_at_call 16; first | (refine (bytes_same A2 A3 rx c2 c3 _ HI2.out HI3.out).mono ?_; rintro e w8 ⟨rfl, rfl⟩; clear HI2 HI3) | (refine (bytes_same A1 B xs c1 cb _ HI1.out (HB.out.below hB')).mono ?_; rintro e w9 ⟨rfl, rfl⟩)))
          go_ret
          exact ⟨rfl, hB'⟩
end Go.Proofs.Ytkcffggjggedjaa
