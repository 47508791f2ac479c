/- The digest of a state, and of lists: what the calls come to. -/
import Derived.Test.YtkodmicocjklcaaShPad
namespace Go.Proofs.Ytkodmicocjklcaa
open Go.RowKit

def wordByte (x : BitVec 64) (j : Nat) : Int := ((x.toNat / 2 ^ (56 - 8 * j) % 256 : Nat) : Int)
def outW (x : BitVec 64) : Nat → Nat → List Int → List Int
  | 0, _, L => L
  | k + 1, j, L => outW x k (j + 1) (L ++ [wordByte x j])
def outH (H : List (BitVec 64)) : Nat → Nat → List Int → List Int
  | 0, _, L => L
  | k + 1, i, L => outH H k (i + 1) (outW (H.getD i 0) 8 0 L)
def sumF (H : List (BitVec 64)) (L : List Int) (n : Nat) : List Int := outH (eatF H (L ++ padF n)).1 6 0 []
theorem outW_len (x : BitVec 64) : ∀ k j L, (outW x k j L).length = L.length + k
  | 0, _, _ => rfl
  | k + 1, j, L => by rw [outW, outW_len x k]; simp; omega
theorem outH_len (H : List (BitVec 64)) : ∀ k i L, (outH H k i L).length = L.length + 8 * k
  | 0, _, _ => rfl
  | k + 1, i, L => by rw [outH, outH_len H k, outW_len]; omega
theorem sumF_len (H : List (BitVec 64)) (L : List Int) (n : Nat) : (sumF H L n).length = 48 := by rw [sumF, outH_len]; rfl
theorem outW_byt (x : BitVec 64) : ∀ k j L, Byt L → Byt (outW x k j L)
  | 0, _, _, h => h
  | k + 1, j, L, h => outW_byt x k (j + 1) _ (byt_app h (fun y hy => by
      simp only [List.mem_singleton] at hy
      subst hy
      unfold wordByte
      omega))
theorem outH_byt (H : List (BitVec 64)) : ∀ k i L, Byt L → Byt (outH H k i L)
  | 0, _, _, h => h
  | k + 1, i, L, h => outH_byt H k (i + 1) _ (outW_byt _ 8 0 _ h)
theorem sumF_byt (H : List (BitVec 64)) (L : List Int) (n : Nat) : Byt (sumF H L n) := outH_byt _ _ _ _ byt_nil
theorem padPut_byt (m : Nat) : ∀ k i L, Byt L → Byt (padPut m k i L)
  | 0, _, _, h => h
  | k + 1, i, L, h => padPut_byt m k (i + 1) _ (fun y hy => by
      rcases List.mem_or_eq_of_mem_set hy with h1 | h1
      · exact h y h1
      · subst h1; omega)
theorem padF_byt (n : Nat) : Byt (padF n) := fun y hy => by
  unfold padF at hy
  rcases List.mem_or_eq_of_mem_set hy with h1 | h1
  · refine padPut_byt _ _ _ _ (fun z hz => ?_) y h1
    rcases List.mem_cons.1 hz with rfl | h2
    · omega
    · rw [List.mem_replicate] at h2; omega
  · subst h1; omega
theorem padF_len (n : Nat) : (padF n).length = padK n + 17 := by
  unfold padF
  rw [List.length_set, padPut_len]; simp
theorem padK_lt (n : Nat) : padK n < 128 := by unfold padK; omega

/-- One row, for a call that writes elsewhere. -/
theorem oneRow {w : World} {g : Nat} {vb : Option Nat} {base : Nat} {u : Value} {x : List Int} (h : OwnB w base u x) (hg : g < base) (hv : ∀ k, vb = some k → k < base) (hb : base ≤ w.heap.size) :
    RowsF g vb (w.alloc (.cells #[u] 25)) (some ⟨w.heap.size, 0, none⟩) [x] := fun _ => by
  have key : ∀ b, base ≤ b → Far g vb b := fun b hb => ⟨by omega, fun e => by have := hv b e.symm; omega⟩
  obtain ⟨A, c, hu, hc, hi⟩ := h.bv
  refine ⟨w.heap.size, 0, rfl, key _ hb, fun j hj => ?_⟩
  obtain rfl : j = 0 := by simpa using hj
  refine ⟨A, c, ?_, hc, hi.below ((Below.refl _ _).alloc (Nat.le_refl _) _), fun hn a ha => ?_⟩
  · rw [cell_of_row _ _ _ _ _ (0, 0) (heap_alloc_new w _), hu]
    rfl
  · obtain ⟨b, off, hA, _⟩ := hi hn
    rw [ha] at hA
    have hab : a.block = b := by simp only [Option.some.injEq] at hA; rw [hA]
    rw [hab]
    refine key b ?_
    rcases h.2 with ⟨h1, h2⟩ | ⟨g', cap, cur, h1, h2, _⟩
    · exact absurd (List.eq_nil_of_length_eq_zero h2) hn
    · rw [hu] at h1
      simp only [Value.slice.injEq] at h1
      rw [ha, hA] at h1
      have := h1.1
      simp only [Option.some.injEq, Addr.mk.injEq] at this
      omega

set_option maxRecDepth 100000 in
set_option maxHeartbeats 2000000 in
theorem stateSum_any (g : Nat) (A : Option Addr) (L : List Int) (c : Nat) (w : World) (H : List (BitVec 64)) (n : Nat) (hH : H.length = 8) (hn : n ≤ 1000000000) (hL : L.length ≤ 1000000) (hY : Byt L) (hg : St w g H (.slice A L.length c) n) (hA : Ints .u8 w A L) :
    Calls Try.prog 14 #[.pointer (some ⟨g, 0, none⟩)] w fun e w' => ∃ u, e = .returned u ∧ OwnB w' w.heap.size u (sumF H L n) ∧ Below w.heap.size w w' := by
  obtain ⟨i0, hi, hz0, hz1, hz2⟩ := info_parts (show (Try.prog.info? 5).map (fun i => (i.zero, i.size, i.bytes)) = some (some (.int .u8 0), 1, 1) by kernel_rfl)
  have HG := Lib.hid hg
  have HA := Lib.hid hA
  have HH := Lib.hid hH
  have HY := Lib.hid hY
  generalize hS : sumF H L n = S
  have HS := Lib.hid (And.intro hS trivial)
  generalize hE : (eatF H (L ++ padF n)).1 = E
  have HE := Lib.hid (And.intro hE trivial)
  have HEL := Lib.hid (show E.length = 8 by rw [← hE, eatF_len, hH])
  clear hg hA hH hY hS hE
  go_enter Try.func14, Try.ntmps14
  go_wp2_with (first
    | (go_at_call 15; refine (copyState_any g A L c w H n HH.out HG.out (by omega) HA.out).mono ?_; rintro e w1 ⟨v, rfl, hs1, ho1, hb1⟩; have HS1 := Lib.hid hs1; have HO1 := Lib.hid ho1; have HB1 := Lib.hid hb1; have HSA := Lib.hid (show St w1 g H (.slice A L.length c) n from blk_below HG.out hb1); clear hs1 ho1 hb1)
    | (go_at_call 25; refine (pad_any g w1 H (.slice A L.length c) n HH.out hn HSA.out).mono ?_; rintro e w2 ⟨u, rfl, ho2, hb2⟩; obtain ⟨Au, cu, hu, _, _⟩ := ho2.bv; subst hu; have HO2 := Lib.hid ho2; have HB2 := Lib.hid hb2; clear ho2 hb2)
    | (go_at_call 13;
       have hs3 := Lib.hid (show St (w2.alloc (.cells #[.slice Au (padF n).length cu] 25)) w.heap.size H v n from blk_alloc (blk_below HS1.out HB2.out) _);
       have ho3 := Lib.hid (show OwnB (w2.alloc (.cells #[.slice Au (padF n).length cu] 25)) (w.heap.size + 1) v L from own_below (own_below HO1.out HB2.out) ((Below.refl _ _).alloc (Nat.le_refl _) _));
       have hlt1 : w.heap.size < w1.heap.size := (Array.getElem?_eq_some_iff.1 HS1.out).1;
       have hvb : ∀ k, v.ownBlock = some k → w.heap.size + 1 ≤ k ∧ k < w1.heap.size := World.ownsRow.lt HO1.out;
       refine (write_any w.heap.size v L H n (some ⟨w2.heap.size, 0, none⟩) [padF n] 1 _ HH.out (by simp) (by omega) (by have := padF_len n; have := padK_lt n; simp [tot]; omega) (by have := padF_len n; have := padK_lt n; simp [tot]; omega) hs3.out (World.ownsRow.mono ho3.out (Nat.zero_le _)) HY.out (fun l hl => by simp only [List.mem_singleton] at hl; subst hl; exact padF_byt n) (oneRow HO2.out hlt1 (fun k hk => (hvb k hk).2) HB2.out.size)).mono ?_;
       rintro e w4 ⟨ht4, v4, rfl, hs4, ho4⟩;
       have hb4 : Below w.heap.size w w4 := (HB1.out.trans ((HB2.out.mono HB1.out.size).alloc (by have := HB2.out.size; omega) _)).trans (ht4.toBelow (by have := HB2.out.size; simp; omega) (Nat.le_refl _) (fun k hk => by have := (hvb k hk).1; omega));
       rw [show [padF n].flatten = padF n by simp, HE.out.1] at hs4;
       have HS4 := Lib.hid hs4; have HB4 := Lib.hid hb4; clear hs3 ho3 hlt1 hvb ht4 hs4 ho4 hb4))
  have HSE := Lib.hid (show outH E 6 0 [] = S ∧ True from ⟨by rw [← HE.out.1]; exact HS.out.1, trivial⟩)
  clear HE HS HSA HO1 HB1 HS1 HO2 HB2 HG HA HY
  go_loopw [4, 20] (fun vo vi wr => ∃ (k : Nat) (M : List Int), k ≤ 6 ∧ vi = .int .i64 k ∧ Hid (M.length = 8 * k) ∧ Hid (outH E (6 - k) k M = S ∧ True) ∧ Hid (wr.ownsRow w.heap.size 5 1 vo M.length (ints .u8 M)) ∧ Hid (St wr w.heap.size E v4 (n + tot [padF n])) ∧ Hid (Below w.heap.size w wr)) (fun _ vi _ => 6 - (intOf vi).toNat)
  case atStart => exact ⟨0, [], by omega, rfl, rfl, HSE, World.ownsRow_nil _ _ _ _, HS4, HB4⟩
  case round =>
    clear HSE HS4 HB4
    obtain ⟨k, M, hk, rfl, hM, hX, ho, hs, hb⟩ := hrel
    by_cases hlt : k < 6
    · obtain ⟨x, hx⟩ : ∃ x, E.getD k 0 = x := ⟨_, rfl⟩
      have hc : wr.cell? ⟨w.heap.size, k, none⟩ = some (.int .u64 (x.toNat : Int)) := by rw [← hx]; exact hs.out.word k (by rw [HEL.out]; omega)
      generalize hW : outW x 8 0 M = W
      have HW := Lib.hid (And.intro hW trivial)
      have HX := Lib.hid (show outH E (6 - (k + 1)) (k + 1) W = S ∧ True from ⟨by rw [← hX.out.1, show 6 - k = (6 - (k + 1)) + 1 by omega, outH, hx, hW], trivial⟩)
      have HWL := Lib.hid (show W.length = 8 * (k + 1) by rw [← hW, outW_len, hM.out]; omega)
      clear hx hW hX
      have hx64 := x.isLt
      generalize hm : x.toNat = m at hc hx64
      have HXM := Lib.hid hm
      have hm1 := Lib.hid hx64
      clear hm hx64
      have hkb : decide ((k : Int) < 6) = true := decide_eq_true (by omega)
      go_wp2
      go_loopw [4, 24] (fun vo vj wq => ∃ (j : Nat) (N : List Int), j ≤ 8 ∧ vj = .int .i64 j ∧ Hid (N.length = 8 * k + j) ∧ Hid (outW x (8 - j) j N = W ∧ True) ∧ Hid (wq.ownsRow w.heap.size 5 1 vo N.length (ints .u8 N)) ∧ Hid (St wq w.heap.size E v4 (n + tot [padF n])) ∧ Hid (Below w.heap.size w wq)) (fun _ vj _ => 8 - (intOf vj).toNat)
      case atStart => exact ⟨0, M, by omega, rfl, hM, HW, ho, hs, hb⟩
      case round =>
        clear ho hs hb HW
        obtain ⟨j, N, hj, rfl, hN, hX, ho, hs, hb⟩ := hrel
        by_cases hjl : j < 8
        · have HNX := Lib.hid (show outW x (8 - j) j N = outW x (8 - (j + 1)) (j + 1) (N ++ [wordByte x j]) by rw [show 8 - j = (8 - (j + 1)) + 1 by omega, outW])
          have hlen : (N.length : Int) ≤ 48 := by have := hN.out; omega
          have HWB := Lib.hid (show wordByte x j = ((m / 2 ^ (56 - 8 * j) % 256 : Nat) : Int) by rw [wordByte, HXM.out])
          have HV := Lib.hid (show (m : Int) / 2 ^ (56 - 8 * j) % 256 = ((m / 2 ^ (56 - 8 * j) % 256 : Nat) : Int) by simp)
          go_wp2_with (at_builtin; refine wp_append_src (w0 := w) w.heap.size 1 1 (.tmp 27) (.tmp 34) 25 25 5 rfl rfl Try.underlying25 hi hz0 hz1 hz2 rfl (by decide) (ho.out.alloc _) rfl ((ints_lit wr .u8 5 [_]).src Try.underlying25 1) rfl (by unfold maxLen; simp; omega) (by simp; omega) (hb.out.alloc hb.out.size _) (by have := hb.out.size; simp; omega) (Nat.le_refl _) ?_; intro v5 w5 ho5 hb5 hg5 _; rw [ints_append, HV.out, ← HWB.out] at ho5; have HS5 := Lib.hid (show St w5 w.heap.size E v4 (n + tot [padF n]) from blk_grown (blk_alloc hs.out _) hg5 (own_ne ho.out hs.out (by decide)).symm); have HO5 := Lib.hid ho5; have HB5 := Lib.hid hb5; clear ho5 hb5 hg5)
          go_roundw
          case rel => exact ⟨j + 1, N ++ [wordByte x j], by omega, by go_num, Lib.hid (by simp; have := hN.out; omega), Lib.hid ⟨by rw [← HNX.out]; exact hX.out.1, trivial⟩, Lib.hid (by simpa using HO5.out), HS5, HB5⟩
          case measure => simp [intOf]; omega
        · obtain rfl : j = 8 := by omega
          obtain rfl : N = W := hX.out.1
          go_wp2
          go_roundw
          case rel => exact ⟨k + 1, N, by omega, by go_num, HWL, HX, ho, hs, hb⟩
          case measure => simp [intOf]; omega
    · obtain rfl : k = 6 := by omega
      obtain rfl : M = S := hX.out.1
      go_wp2
      go_ret
      exact ⟨_, rfl, ho.out, hb.out⟩

/-! ### lists -/
theorem padTot (n : Nat) : tot [padF n] ≤ 200 := by
  have := padF_len n
  have := padK_lt n
  simp [tot]; omega
/-- The digest of bytes. -/
def digest (l : List Int) : List Int := sumF (eatF beginL l).1 (eatF beginL l).2 l.length
theorem eatF_rest (H : List (BitVec 64)) : ∀ (k : Nat) (L : List Int), L.length ≤ k → (eatF H L).2.length < 128 ∧ (eatF H L).2.length ≤ L.length ∧ (Byt L → Byt (eatF H L).2)
  := by
  intro k
  induction k generalizing H with
  | zero =>
    intro L h
    rw [eatF_small H (by omega)]
    exact ⟨by simp; omega, by simp, fun h => h⟩
  | succ k ih =>
    intro L h
    by_cases hb : 128 ≤ L.length
    · rw [eatF_big H hb]
      have h1 := ih (mixF H (L.take 128)) (L.drop 128) (by simp; omega)
      refine ⟨h1.1, ?_, fun hy => h1.2.2 (byt_drop hy 128)⟩
      have := h1.2.1
      simp at this
      omega
    · rw [eatF_small H (by omega)]
      exact ⟨by simp; omega, by simp, fun h => h⟩

set_option maxHeartbeats 2000000 in
theorem sum_any (A : Option Addr) (ls : List (List Int)) (c : Nat) (w : World) (hl : ls.length ≤ 1000000) (ht : tot ls ≤ 1000000) (hyl : ∀ l ∈ ls, Byt l) (hA : Rows w A ls) :
    Calls Try.prog 9 #[.slice A ls.length c] w fun e w' => ∃ u, e = .returned u ∧ OwnB w' w.heap.size u (digest ls.flatten) ∧ Below w.heap.size w w' := by
  have HA := Lib.hid hA
  have HY := Lib.hid hyl
  have HT := Lib.hid ht
  have HD := Lib.hid (show digest ls.flatten = sumF (eatF beginL ls.flatten).1 (eatF beginL ls.flatten).2 (tot ls) by rw [digest, flat_len])
  have HE := Lib.hid (show (eatF beginL ls.flatten).1.length = 8 by rw [eatF_len]; rfl)
  have HE2 := Lib.hid (eatF_rest beginL _ ls.flatten (Nat.le_refl _))
  have HYF := Lib.hid (HE2.out.2.2 (byt_flat hyl))
  generalize hEE : eatF beginL ls.flatten = E at HD HE HE2 HYF
  have HEE := Lib.hid (And.intro hEE trivial)
  clear hA hyl hEE ht
  go_enter Try.func9, Try.ntmps9
  go_wp2_with (first
    | (go_at_call 12; refine (new_any w).mono ?_; rintro e w1 ⟨g, rfl, hg1, hs1, hb1⟩; have HS1 := Lib.hid hs1; have HB1 := Lib.hid hb1; have HG1 := Lib.hid hg1; clear hs1 hb1 hg1)
    | (go_at_call 13; refine (write_any g (.slice none 0 0) [] beginL 0 A ls c w1 rfl hl (by omega) (by have := HT.out; omega) (by have := HT.out; simp; omega) HS1.out (World.ownsRow_nil _ _ _ _) byt_nil HY.out (HA.out.far HB1.out HG1.out (fun k hk => by simp [Value.ownBlock] at hk))).mono ?_; rintro e w2 ⟨ht2, v2, rfl, hs2, ho2⟩; rw [List.nil_append, HEE.out.1] at hs2 ho2; have HB2 := Lib.hid (HB1.out.trans (ht2.toBelow HB1.out.size HG1.out (fun k hk => by simp [Value.ownBlock] at hk))); obtain ⟨A2, c2, hv2, _, hi2⟩ := ho2.bv; subst hv2; have HS2 := Lib.hid hs2; have HI2 := Lib.hid hi2; clear ht2 hs2 ho2 hi2)
    | (go_at_call 14; refine (stateSum_any g A2 E.2 c2 w2 E.1 (tot ls) HE.out (by have := HT.out; omega) (by have := HE2.out.1; omega) HYF.out (by have := HS2.out; simpa using this) HI2.out).mono ?_; rintro e w3 ⟨u, rfl, ho3, hb3⟩; have HO3 := Lib.hid (World.ownsRow.mono ho3 HB2.out.size); have HB3 := Lib.hid (below_then HB2.out hb3); clear ho3 hb3))
  go_ret
  rw [HD.out]
  exact ⟨_, rfl, HO3.out, HB3.out⟩
end Go.Proofs.Ytkodmicocjklcaa
