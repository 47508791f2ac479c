/- rhzlaw7.FrameLimit: the walk: whatever came in, the call answers true and writes nothing that was there. -/
import Derived.Test.YtkcffggjggedjaaFrReads
import Derived.Test.YtkcffggjggedjaaFrFeed
namespace Go.Proofs.Ytkcffggjggedjaa
open Go.RowKit

set_option maxHeartbeats 400000 in
theorem leftA_any (g : Nat) (most had : Int) (A : Option Addr) (n c : Nat) (over : Bool) (w : World) (hr : RdA w g most had (.slice A n c) over) :
    Calls Try.prog 21 #[.pointer (some ⟨g, 0, none⟩)] w fun e w' => e = .returned (.int .i64 (n : Nat)) ∧ w = w' := by
  have hc : w.cell? ⟨g, 2, none⟩ = some (.slice A n c) := by rw [cell_of_row w g 2 _ _ (0, 0) hr]; rfl
  go_enter Try.func21, Try.ntmps21
  go_wp2
  go_ret
  exact ⟨rfl, rfl⟩
set_option maxHeartbeats 400000 in
theorem leftB_any (g : Nat) (most had : Int) (A : Option Addr) (n c : Nat) (over : Bool) (w : World) (hr : RdB w g most had (.slice A n c) over) :
    Calls Try.prog 22 #[.pointer (some ⟨g, 0, none⟩)] w fun e w' => e = .returned (.int .i64 (n : Nat)) ∧ w = w' := by
  have hc : w.cell? ⟨g, 0, none⟩ = some (.slice A n c) := by rw [cell_of_row w g 0 _ _ (0, 0) hr]; rfl
  go_enter Try.func22, Try.ntmps22
  go_wp2
  go_ret
  exact ⟨rfl, rfl⟩

/-- One old piece, laid into a list of its own. -/
theorem rows_laid {w wr : World} {g n : Nat} {vb : Option Nat} {A : Option Addr} {c : Nat} {x : List Int} (hb : Below w.heap.size w wr) (hx : Ints .u8 w A x) (hc : x.length ≤ c) (hn : x.length = n) (hg : w.heap.size ≤ g ∧ g < wr.heap.size) (hv : ∀ k, vb = some k → w.heap.size ≤ k ∧ k < wr.heap.size) (wq : World)
    (ht : Tch g vb (wr.alloc (.cells #[.slice A n c] 23)) wq) : Rows wq (some ⟨wr.heap.size, 0, none⟩) [x] := by
  subst hn
  have h1 : (wr.alloc (.cells #[.slice A x.length c] 23)).heap[wr.heap.size]? = some (.cells #[.slice A x.length c] 23) := heap_alloc_new wr _
  have h2 := ht.block wr.heap.size (by simp) (by omega) (fun e => by have := (hv _ e.symm).2; omega)
  refine rows_one (h2.trans h1) ⟨A, c, rfl, hc, hx.below ?_⟩
  have h3 : Below w.heap.size w (wr.alloc (.cells #[.slice A x.length c] 23)) := hb.alloc hb.size _
  exact h3.trans (ht.toBelow (by simpa using h3.size) hg.1 (fun k hk => (hv k hk).1))
theorem tot_one (x : List Int) : tot [x] = x.length := by simp [tot]

set_option maxRecDepth 20000 in
set_option maxHeartbeats 4000000 in
theorem limit_walk (A : Option Addr) (ls : List (List Int)) (ca : Nat) (most : Int) (w : World) (hl : ls.length ≤ maxLen) (hm : ∀ l ∈ ls, l.length ≤ 140737488351232) (hyb : ∀ l ∈ ls, Byt l) (hA : Rows w A ls) :
    Calls Try.prog 7 #[.slice A ls.length ca, .int .i64 most] w fun e w' => e = .returned (.bool true) ∧ Below w.heap.size w w' := by
  have hB0 := Below.refl w.heap.size w
  have HA := Lib.hid hA
  have HM := Lib.hid (show ∀ l ∈ ls, l.length ≤ maxLen from fun l h => by have := hm l h; unfold maxLen; omega)
  have HM2 := Lib.hid hm
  have HL := Lib.hid hl
  have HY := Lib.hid hyb
  clear hA hm hl hyb
  have hf : fewF ls = true → ls.length ≤ 100 := few_len
  generalize hfew : fewF ls = b at hf
  have HF := Lib.hid hfew
  clear hfew
  have hcase : b = false ∨ (b = true ∧ most < 0) ∨ (b = true ∧ 0 ≤ most ∧ 20000 < most) ∨ (b = true ∧ 0 ≤ most ∧ most ≤ 20000) := by
    rcases b with _ | _
    · exact .inl rfl
    · by_cases h1 : most < 0
      · exact .inr (.inl ⟨rfl, h1⟩)
      · by_cases h2 : 20000 < most
        · exact .inr (.inr (.inl ⟨rfl, by omega, h2⟩))
        · exact .inr (.inr (.inr ⟨rfl, by omega, by omega⟩))
  rcases hcase with rfl | ⟨rfl, h0⟩ | ⟨rfl, h0, h1⟩ | ⟨rfl, h0, h1⟩
  · clear hf
    go_enter Try.func7, Try.ntmps7
    go_wp2_with (first
      | (go_at_call 8; refine (first_any _).mono ?_; rintro e w1 ⟨rfl, hb1⟩; replace hB0 := below_then hB0 hb1; clear hb1)
      | (go_at_call 9; refine (few_any A ls ca _ HL.out (HA.out.below hB0) HM.out).mono ?_; rw [HF.out]; rintro e w1 ⟨rfl, rfl⟩))
    go_ret
    exact ⟨rfl, hB0⟩
  · clear hf
    go_enter Try.func7, Try.ntmps7
    go_wp2_with (first
      | (go_at_call 8; refine (first_any _).mono ?_; rintro e w1 ⟨rfl, hb1⟩; replace hB0 := below_then hB0 hb1; clear hb1)
      | (go_at_call 9; refine (few_any A ls ca _ HL.out (HA.out.below hB0) HM.out).mono ?_; rw [HF.out]; rintro e w1 ⟨rfl, rfl⟩))
    go_ret
    exact ⟨rfl, hB0⟩
  · clear hf
    go_enter Try.func7, Try.ntmps7
    go_wp2_with (first
      | (go_at_call 8; refine (first_any _).mono ?_; rintro e w1 ⟨rfl, hb1⟩; replace hB0 := below_then hB0 hb1; clear hb1)
      | (go_at_call 9; refine (few_any A ls ca _ HL.out (HA.out.below hB0) HM.out).mono ?_; rw [HF.out]; rintro e w1 ⟨rfl, rfl⟩))
    go_ret
    exact ⟨rfl, hB0⟩
  · have hl100 := hf rfl
    clear hf
    go_enter Try.func7, Try.ntmps7
    go_wp2_with (first
      | (go_at_call 8; refine (first_any _).mono ?_; rintro e w1 ⟨rfl, hb1⟩; replace hB0 := below_then hB0 hb1; clear hb1)
      | (go_at_call 9; refine (few_any A ls ca _ HL.out (HA.out.below hB0) HM.out).mono ?_; rw [HF.out]; rintro e w1 ⟨rfl, rfl⟩)
      | (go_at_call 17; refine (newReader_any _ _).mono ?_; rintro e w2 ⟨rfl, hw2⟩; have hr2 : RdA w2 w1.heap.size most 0 (.slice none 0 0) false := (by rw [hw2]; exact heap_alloc_new w1 _); have hb2 : Below w1.heap.size w1 w2 := (by rw [hw2]; exact (Below.refl _ w1).alloc (Nat.le_refl _) _); have HG := Lib.hid (show w.heap.size ≤ w1.heap.size from hB0.size); have HR := Lib.hid hr2; have HB := Lib.hid (below_then hB0 hb2); clear hr2 hb2 hw2 hB0))
    generalize w1.heap.size = g at HG HR ⊢
    go_loopw [6, 7, 8] (fun vh vo vi wr => ∃ (k : Nat) (h : Int) (ov : Bool) (A' : Option Addr) (b : List Int) (c' : Nat), k ≤ ls.length ∧ vh = .int .i64 h ∧ vo = .bool ov ∧ vi = .int .i64 k ∧ 0 ≤ h ∧ h ≤ k * 140737488351232 ∧ (b.length : Int) ≤ h ∧ (ov = true → b = []) ∧ (ov = false → h ≤ most) ∧ Hid (RdA wr g most h (.slice A' b.length c') ov) ∧ Hid (OwnB wr w.heap.size (.slice A' b.length c') b) ∧ Hid (Byt b) ∧ Hid (Below w.heap.size w wr)) (fun _ _ vi _ => ls.length - (intOf vi).toNat)
    case atStart => exact ⟨0, 0, false, none, [], 0, by omega, rfl, rfl, rfl, by omega, by omega, by simp, fun h => rfl, fun _ => h0, HR, World.ownsRow_nil _ _ _ _, byt_nil, HB⟩
    case round =>
      clear HR HB
      obtain ⟨k, h, ov, A', b, c', hk, rfl, rfl, rfl, hh0, hhk, hbh, hov, hnov, hr, ho, hy, hb⟩ := hrel
      by_cases hlt : k < ls.length
      · obtain ⟨b1, o1, A1, c1, hAe, hcw, hxc, hxi⟩ := HA.out.look hlt
        have hc := (hb.out.cell (World.block_lt_of_cell? w _ hcw)).trans hcw
        have hmem : ls.getD k [] ∈ ls := by rw [List.getD_eq_getElem?_getD, List.getElem?_eq_getElem hlt]; exact List.getElem_mem hlt
        have hx2 := HM2.out _ hmem
        have hyx := HY.out _ hmem
        subst hAe
        generalize ls.getD k [] = x at hc hcw hxc hxi hx2 hyx
        have hgs : w.heap.size ≤ g ∧ g < wr.heap.size := ⟨HG.out, (Array.getElem?_eq_some_iff.1 hr.out).1⟩
        have hvs := World.ownsRow.lt ho.out
        have HRW := Lib.hid (rows_laid hb.out hxi hxc rfl hgs hvs)
        have HR1 := Lib.hid (show RdA (wr.alloc (.cells #[.slice A1 x.length c1] 23)) g most h (.slice A' b.length c') ov from blk_alloc hr.out _)
        have HO1 := Lib.hid (show OwnB (wr.alloc (.cells #[.slice A1 x.length c1] 23)) 0 (.slice A' b.length c') b from World.ownsRow.mono (own_below ho.out ((Below.refl _ _).alloc (Nat.le_refl _) _)) (Nat.zero_le _))
        have HB1 := Lib.hid (hb.out.alloc hb.out.size (.cells #[.slice A1 x.length c1] 23))
        have HGV := Lib.hid (fun (wq : World) (ht : Tch g (Value.slice A' b.length c').ownBlock (wr.alloc (.cells #[.slice A1 x.length c1] 23)) wq) => HB1.out.trans (ht.toBelow HB1.out.size hgs.1 (fun k hk => (hvs k hk).1)))
        have HYX := Lib.hid hyx
        have hsx : (x.length : Int) ≤ 140737488351232 := by omega
        have hk100 : (k : Int) ≤ 99 := by omega
        have hhx : h + (x.length : Int) ≤ 4611686018427387904 := by omega
        have ht1 : (tot [x] : Int) = x.length := by rw [tot_one]
        have HT1 := Lib.hid ht1
        clear hxi hxc hcw hmem hx2 hyx hgs hvs hr ho ht1
        by_cases hok : ov = false ∧ h + (x.length : Int) ≤ most
        · obtain ⟨rfl, hle⟩ := hok
          have hbx : b.length + tot [x] ≤ 268435456 := by rw [tot_one]; omega
          have HBX := Lib.hid hbx
          have HBF := Lib.hid (show (List.drop (takeR (b ++ [x].flatten)).2 (b ++ [x].flatten)).length ≤ b.length + x.length ∧ Byt (List.drop (takeR (b ++ [x].flatten)).2 (b ++ [x].flatten)) from ⟨by simp, fun y hy' => byt_app hy.out (byt_flat (ls := [x]) (fun l hl => by simp at hl; subst hl; exact HYX.out)) y (List.mem_of_mem_drop hy')⟩)
          clear hbx
          go_wp2_with (first
            | (go_at_call 19; go_must (refine (feed_ok g most h _ b _ [x] 1 _ (Nat.le_of_ble_eq_true rfl) hh0 (by rw [HT1.out]; omega) HBX.out HR1.out HO1.out hy.out (fun l hl => by simp at hl; subst hl; exact HYX.out) HRW.out (by rw [HT1.out]; omega)).mono ?_); go_must (rw [HT1.out]); rintro e w3 ⟨ht3, vo, v3, mid, rfl, hr3, hm1, hm2, ho3, _⟩; have hbf := HBF.out; generalize List.drop (takeR (b ++ [x].flatten)).2 (b ++ [x].flatten) = B3 at ho3 hbf; have hB3 := hbf.1; have HYB := Lib.hid hbf.2; obtain ⟨A3, c3, hv3, _, _⟩ := ho3.bv; subst hv3; clear hbf; have HR3 := Lib.hid hr3; have HB3 := Lib.hid (HGV.out _ ht3); have HO3 := Lib.hid (World.ownsRow.mono ho3 (Nat.le_trans HB1.out.size hm1)); clear hr3 ht3 ho3 hm1 hm2)
            | (go_at_call 21; refine (leftA_any g _ _ _ _ _ _ _ HR3.out).mono ?_; rintro e w4 ⟨rfl, rfl⟩))
          go_roundw
          case rel =>
            exact ⟨k + 1, h + x.length, false, A3, B3, c3, by omega, rfl, rfl, by go_num, by omega, by omega, by omega, fun h => by simp at h, fun _ => hle, HR3, HO3, HYB, HB3⟩
          case measure => simp [intOf]; omega
        · have hover : ov = true ∨ (ov = false ∧ most < h + (x.length : Int)) := by
            rcases ov with _ | _
            · exact .inr ⟨rfl, by simp at hok; omega⟩
            · exact .inl rfl
          clear hok
          rcases hover with rfl | ⟨rfl, hlt2⟩
          all_goals
            go_wp2_with (first
              | (go_at_call 19; go_must (refine (feed_over g most h _ _ _ [x] 1 _ (Nat.le_of_ble_eq_true rfl) hh0 (by rw [HT1.out]; omega) HR1.out HRW.out (by rw [HT1.out]; first | exact .inl rfl | exact .inr (by omega))).mono ?_); rw [HT1.out]; rintro e w3 ⟨ht3, rfl, hr3⟩; have HR3 := Lib.hid hr3; have HB3 := Lib.hid (HGV.out _ ht3); clear hr3 ht3)
              | (go_at_call 21; refine (leftA_any g _ _ none 0 0 _ _ HR3.out).mono ?_; rintro e w4 ⟨rfl, rfl⟩))
            go_roundw
            case rel => exact ⟨k + 1, h + x.length, true, none, [], 0, by omega, rfl, rfl, by go_num, by omega, by omega, by simp; omega, fun _ => rfl, fun h => by simp at h, HR3, World.ownsRow_nil _ _ _ _, byt_nil, HB3⟩
            case measure => simp [intOf]; omega
      · obtain rfl : k = ls.length := by omega
        have hB1 := hb.out
        go_wp2_with (go_at_call 8; refine (first_any _).mono ?_; rintro e w7 ⟨rfl, hb7⟩; replace hB1 := below_then hB1 hb7; clear hb7)
        go_ret
        exact ⟨rfl, hB1⟩
end Go.Proofs.Ytkcffggjggedjaa
