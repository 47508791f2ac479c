/- rhzref8.Sum: what the call comes to. -/
import Derived.Test.YtkodmicocjklcaaShRefA
namespace Go.Proofs.Ytkodmicocjklcaa
open Go.RowKit

theorem root2_any (p : BitVec 64) (w : World) : Calls Try.prog 19 #[.int .u64 (p.toNat : Int), .int .i64 2] w fun e w' => e = .returned (.int .u64 ((rootF p 2).toNat : Int)) ∧ Below w.heap.size w w' := root_any p 2 w (.inl rfl)
theorem root3_any (p : BitVec 64) (w : World) : Calls Try.prog 19 #[.int .u64 (p.toNat : Int), .int .i64 3] w fun e w' => e = .returned (.int .u64 ((rootF p 3).toNat : Int)) ∧ Below w.heap.size w w' := root_any p 3 w (.inr rfl)
theorem us_snoc (l : List (BitVec 64)) (x : BitVec 64) : us l ++ ints .u64 [(x.toNat : Int)] = us (l ++ [x]) := by simp [us, ints, U]
theorem Tch.grownBut {g : Nat} {vb : Option Nat} {w w' : World} (h : Tch g vb w w') {e : TypeId} {b s n : Nat} {u : Value} {xs : List Value} (hu : w.ownsRow b e s u n xs) (hg : u.ownBlock ≠ some g) (hv : u.ownBlock = none ∨ u.ownBlock ≠ vb) : w'.ownsRow b e s u n xs := by
  rcases hu.2 with ⟨rfl, hn⟩ | ⟨k, cap, cur, rfl, hb, hk, h1, h2, h3, h4⟩
  · exact ⟨hu.1, .inl ⟨rfl, hn⟩⟩
  · refine ⟨hu.1, .inr ⟨k, cap, cur, rfl, hb, ?_, h1, h2, h3, h4⟩⟩
    have hlt := (Array.getElem?_eq_some_iff.1 hk).1
    rw [h.block k hlt (fun e => hg (by rw [e]; rfl)) (fun e => by
      rcases hv with hv | hv
      · simp [Value.ownBlock] at hv
      · exact hv (by rw [← e]; rfl))]
    exact hk
def padZ (n : Nat) : Nat := (240 - (n + 1) % 128) % 128
def be8 (m : Nat) : Nat → List Int → List Int
  | 0, L => L
  | k + 1, L => be8 m k (L ++ [((m / 2 ^ (8 * k) % 256 : Nat) : Int)])
def refPad (L : List Int) : List Int := be8 (8 * L.length) 8 (L ++ 128 :: List.replicate (padZ L.length) 0 ++ List.replicate 8 0)
def outI (H : List (BitVec 64)) : Nat → Nat → List Int → List Int
  | 0, _, L => L
  | k + 1, i, L => outI H k (i + 1) (L ++ [wordByte (H.getD (i / 8) 0) (i % 8)])
def refDigest (L : List Int) : List Int := outI (eatF beginL (refPad L)).1 48 0 []
theorem be8_len (m : Nat) : ∀ k L, (be8 m k L).length = L.length + k
  | 0, _ => rfl
  | k + 1, L => by rw [be8, be8_len m k]; simp; omega
theorem be8_byt (m : Nat) : ∀ k L, Byt L → Byt (be8 m k L)
  | 0, _, h => h
  | k + 1, L, h => be8_byt m k _ (byt_app h (fun y hy => by
      simp only [List.mem_singleton] at hy
      subst hy
      omega))
theorem refPad_len (L : List Int) : (refPad L).length = L.length + padZ L.length + 17 := by
  rw [refPad, be8_len]; simp; omega
theorem refPad_byt {L : List Int} (h : Byt L) : Byt (refPad L) := be8_byt _ _ _ (byt_app (byt_app h (fun y hy => by
  rcases List.mem_cons.1 hy with rfl | h1
  · omega
  · rw [List.mem_replicate] at h1; omega)) (fun y hy => by rw [List.mem_replicate] at hy; omega))

set_option maxRecDepth 100000 in
set_option maxHeartbeats 8000000 in
theorem refSum_any (A : Option Addr) (L : List Int) (c : Nat) (w : World) (hL : L.length ≤ 1000000) (hY : Byt L) (hA : Ints .u8 w A L) :
    Calls Try.prog 11 #[.slice A L.length c] w fun e w' => ∃ u, e = .returned u ∧ OwnB w' w.heap.size u (refDigest L) ∧ Below w.heap.size w w' := by
  obtain ⟨i0, i1, hz0, hz1, hz2⟩ := info_parts (show (Try.prog.info? 40).map (fun i => (i.zero, i.size, i.bytes)) = some (some (.int .u64 0), 1, 8) by kernel_rfl)
  obtain ⟨j0, j1, jz0, jz1, jz2⟩ := info_parts (show (Try.prog.info? 5).map (fun i => (i.zero, i.size, i.bytes)) = some (some (.int .u8 0), 1, 1) by kernel_rfl)
  have HA := Lib.hid hA
  have HY := Lib.hid hY
  obtain ⟨R, hR⟩ : ∃ R, refDigest L = R := ⟨_, rfl⟩
  have HR := Lib.hid (And.intro hR trivial)
  rw [hR]
  clear hA hY hR
  go_enter Try.func11, Try.ntmps11
  go_wp2_with (go_at_call 18; refine (primes_any w).mono ?_; rintro e w1 ⟨vp, rfl, hp1, hb1⟩; rw [← primeB_us] at hp1; obtain ⟨gp, cp, hvp, hgp⟩ := own_form hp1 (by omega); subst hvp; have HP1 := Lib.hid hp1; have HB1 := Lib.hid hb1; clear hp1 hb1)
  go_loopw [4, 6] (fun vh vi wr => ∃ (i : Nat) (M : List (BitVec 64)), 8 ≤ i ∧ i ≤ 16 ∧ vi = .int .i64 i ∧ Hid (M.length = i - 8) ∧ Hid (M ++ ((primeB.drop i).take (16 - i)).map (fun p => rootF p 2) = beginL ∧ True) ∧ Hid (wr.ownsRow w1.heap.size 40 1 vh M.length (us M)) ∧ Hid (Below w1.heap.size w1 wr)) (fun _ vi _ => 16 - (intOf vi).toNat)
  case atStart => exact ⟨8, [], by omega, by omega, rfl, rfl, Lib.hid ⟨roots2, trivial⟩, World.ownsRow_nil _ _ _ _, Below.refl _ _⟩
  case round =>
    obtain ⟨i, M, hi8, hi, rfl, hM, hX, ho, hb⟩ := hrel
    by_cases hlt : i < 16
    · obtain ⟨p, hp⟩ : ∃ p, primeB.getD i 0 = p := ⟨_, rfl⟩
      have c1 : wr.cell? ⟨gp, i, none⟩ = some (.int .u64 (p.toNat : Int)) := by rw [← hp]; exact own_cellU (own_below HP1.out hb.out) i (by omega)
      have HXN := Lib.hid (show (M ++ [rootF p 2]) ++ ((primeB.drop (i + 1)).take (16 - (i + 1))).map (fun p => rootF p 2) = beginL from by
        rw [← hX.out.1, drop_get 0 primeB (j := i) (by rw [primeB_len]; omega), hp, show 16 - i = (16 - (i + 1)) + 1 by omega, List.take_succ_cons, List.map_cons]; simp)
      generalize hr : rootF p 2 = r at HXN
      have HRT := Lib.hid hr
      clear hp hr hX
      have hlen : M.length ≤ 80 := by have := hM.out; omega
      go_wp2_with (first
        | (go_at_call 19; refine (root2_any p wr).mono ?_; rintro e w2 ⟨rfl, hb2⟩; rw [HRT.out]; have HB2 := Lib.hid (below_then hb.out hb2); have HO2 := Lib.hid (own_below ho.out hb2); clear hb2)
        | (at_builtin; refine wp_append_src (w0 := w1) w1.heap.size 1 8 (.tmp 18) (.tmp 24) 38 38 40 rfl rfl Try.underlying38 i1 hz0 hz1 hz2 rfl (by decide) (HO2.out.alloc _) rfl ((ints_lit w2 .u64 40 [_]).src Try.underlying38 1) rfl (by unfold maxLen; simp; omega) (by simp; omega) (HB2.out.alloc HB2.out.size _) (by have := HB2.out.size; simp; omega) (Nat.le_refl _) ?_; intro v5 w5 ho5 hb5 _ _; rw [us_snoc] at ho5; have HO5 := Lib.hid ho5; have HB5 := Lib.hid hb5; clear ho5 hb5))
      go_roundw
      case rel => exact ⟨i + 1, M ++ [r], by omega, by omega, by go_num, Lib.hid (by simp; have := hM.out; omega), Lib.hid ⟨HXN.out, trivial⟩, Lib.hid (by simpa using HO5.out), HB5⟩
      case measure => (simp [intOf] <;> omega)
    · obtain rfl : i = 16 := by omega
      obtain rfl : M = beginL := by have := hX.out.1; simpa using this
      simp only [Int.cast_ofNat_Int]
      obtain ⟨w2, hw2⟩ : ∃ w2, w2 = wr := ⟨_, rfl⟩
      subst hw2
      obtain ⟨gh, ch, hvh, hgh⟩ := own_form ho.out (by decide)
      rw [show beginL.length = 8 from rfl] at ho hvh
      subst hvh
      have HB2 := Lib.hid (HB1.out.trans (hb.out.mono HB1.out.size))
      have HH := Lib.hid (World.ownsRow.mono ho.out (Nat.zero_le _))
      have HP := Lib.hid (World.ownsRow.mono (own_below HP1.out hb.out) (Nat.zero_le _))
      have hghl : gh < w2.heap.size := (World.ownsRow.lt ho.out gh rfl).2
      have hgw : w.heap.size ≤ gh := Nat.le_trans HB1.out.size hgh
      clear hX HP1 HB1 hb ho hM
      go_wp2
      go_loopw [5, 7] (fun vh vi wr => ∃ (i : Nat) (M : List (BitVec 64)), i ≤ 80 ∧ vi = .int .i64 i ∧ Hid (M.length = i) ∧ Hid (M ++ (primeB.drop i).map (fun p => rootF p 3) = constL ∧ True) ∧ Hid (wr.ownsRow w2.heap.size 40 1 vh M.length (us M)) ∧ Hid (Below w2.heap.size w2 wr)) (fun _ vi _ => 80 - (intOf vi).toNat)
      case atStart => exact ⟨0, [], by omega, rfl, rfl, Lib.hid ⟨roots3, trivial⟩, World.ownsRow_nil _ _ _ _, Below.refl _ _⟩
      case round =>
        obtain ⟨i, M, hi, rfl, hM, hX, ho, hb⟩ := hrel
        by_cases hlt : i < 80
        · obtain ⟨p, hp⟩ : ∃ p, primeB.getD i 0 = p := ⟨_, rfl⟩
          have c1 : wr.cell? ⟨gp, i, none⟩ = some (.int .u64 (p.toNat : Int)) := by rw [← hp]; exact own_cellU (own_below HP.out hb.out) i (by omega)
          have HXN := Lib.hid (show (M ++ [rootF p 3]) ++ (primeB.drop (i + 1)).map (fun p => rootF p 3) = constL from by
            rw [← hX.out.1, drop_get 0 primeB (j := i) (by rw [primeB_len]; omega), hp, List.map_cons]; simp)
          generalize hr : rootF p 3 = r at HXN
          have HRT := Lib.hid hr
          clear hp hr hX
          have hlen : M.length ≤ 80 := by have := hM.out; omega
          go_wp2_with (first
            | (go_at_call 19; refine (root3_any p wr).mono ?_; rintro e w3 ⟨rfl, hb3⟩; rw [HRT.out]; have HB3 := Lib.hid (below_then hb.out hb3); have HO3 := Lib.hid (own_below ho.out hb3); clear hb3)
            | (at_builtin; refine wp_append_src (w0 := w2) w2.heap.size 1 8 (.tmp 30) (.tmp 36) 38 38 40 rfl rfl Try.underlying38 i1 hz0 hz1 hz2 rfl (by decide) (HO3.out.alloc _) rfl ((ints_lit w3 .u64 40 [_]).src Try.underlying38 1) rfl (by unfold maxLen; simp; omega) (by simp; omega) (HB3.out.alloc HB3.out.size _) (by have := HB3.out.size; simp; omega) (Nat.le_refl _) ?_; intro v5 w5 ho5 hb5 _ _; rw [us_snoc] at ho5; have HO5 := Lib.hid ho5; have HB5 := Lib.hid hb5; clear ho5 hb5))
          go_roundw
          case rel => exact ⟨i + 1, M ++ [r], by omega, by go_num, Lib.hid (by simp; have := hM.out; omega), Lib.hid ⟨HXN.out, trivial⟩, Lib.hid (by simpa using HO5.out), HB5⟩
          case measure => (simp [intOf] <;> omega)
        · obtain rfl : i = 80 := by omega
          obtain rfl : M = constL := by have := hX.out.1; rw [List.drop_eq_nil_of_le (by rw [primeB_len]; omega)] at this; simpa using this
          simp only [Int.cast_ofNat_Int]
          obtain ⟨w3, hw3⟩ : ∃ w3, w3 = wr := ⟨_, rfl⟩
          subst hw3
          obtain ⟨gc, cc, hvk, hgk⟩ := own_form ho.out (by decide)
          rw [constL_len] at ho hvk
          subst hvk
          have HB3 := Lib.hid (HB2.out.trans (hb.out.mono HB2.out.size))
          have HK := Lib.hid (World.ownsRow.mono ho.out (Nat.zero_le _))
          have HH3 := Lib.hid (own_below HH.out hb.out)
          have hgkl : gc < w3.heap.size := (World.ownsRow.lt ho.out gc rfl).2
          have hgh3 : gh < w3.heap.size := Nat.lt_of_lt_of_le hghl hb.out.size
          have hkh : gc ≠ gh := by omega
          clear hX HP HB2 hb ho hM HH
          go_wp2_with (first
            | (go_at_call 20; refine (copy_any A L c w3 (HA.out.below HB3.out) (by omega)).mono ?_; rintro e w4 ⟨v4, rfl, ho4, hb4⟩; have HO4 := Lib.hid ho4; have HB4 := Lib.hid hb4; clear ho4 hb4)
            | (at_builtin; refine wp_append_src (w0 := w3) w3.heap.size 1 1 (.tmp 39) (.tmp 40) 25 25 5 rfl rfl Try.underlying25 j1 jz0 jz1 jz2 rfl (by decide) (HO4.out.alloc _) rfl ((ints_lit w4 .u8 5 [_]).src Try.underlying25 1) rfl (by unfold maxLen; simp; omega) (by simp; omega) (HB4.out.alloc HB4.out.size _) (by have := HB4.out.size; simp; omega) (Nat.le_refl _) ?_; intro v5 w5 ho5 hb5 _ _; rw [ints_append] at ho5; have HO5 := Lib.hid ho5; have HB5 := Lib.hid hb5; clear ho5 hb5))
          obtain ⟨A5, c5, hv5, _⟩ := Ints.own HO5.out
          rw [show (L ++ [(128 : Int)]).length = L.length + 1 by simp] at hv5
          subst hv5
          go_loopg [8] (padZ L.length) (fun k vm wr => ∃ (q : Nat) (M : List Int) (A' : Option Addr) (c' : Nat), vm = .slice A' M.length c' ∧ q + k = padZ L.length ∧ M.length ≤ 1000200 ∧ Hid (M.length = L.length + 1 + q) ∧ Hid (M = L ++ 128 :: List.replicate q 0 ∧ True) ∧ Hid (wr.ownsRow w3.heap.size 5 1 (.slice A' M.length c') M.length (ints .u8 M)) ∧ Hid (Below w3.heap.size w3 wr))
          case atStart => exact ⟨0, L ++ [128], A5, c5, by simp, by omega, by simp; omega, Lib.hid (by simp), Lib.hid ⟨rfl, trivial⟩, Lib.hid (by simpa using HO5.out), HB5⟩
          case round =>
            clear HO5 HB5
            obtain ⟨q, M, A', c', rfl, hqk, hMl, hM, hX, ho, hb⟩ := hrel
            have hz : padZ L.length = (240 - (L.length + 1) % 128) % 128 := rfl
            have HZ := Lib.hid hz
            by_cases hk : gk = 0
            · have ht : ((M.length : Int) % 128 != 112) = false := by
                have := hM.out
                rw [bne_eq_false_iff_eq]; omega
              have HXM := Lib.hid (show M = L ++ 128 :: List.replicate (padZ L.length) 0 from by rw [hX.out.1, ← hqk, hk, Nat.add_zero])
              clear hz
              obtain ⟨v6, w6, hr6, ho6, hg6⟩ := run_append_own_zeros wr w3.heap.size 25 ho.out (by have := hM.out; omega) 8 (by omega) (by omega) hb.out.size
              simp only [Int.cast_ofNat_Int] at hr6
              have HO6 := Lib.hid ho6
              have HB6 := Lib.hid (hb.out.grown hg6 hb.out.size (fun k hk => own_base ho.out k hk))
              clear ho6 hg6 hk hqk
              go_wp2_with (at_builtin; refine Lib.wpList_append_run _ rfl (.tmp 49) (.const (.int .i64 8)) 25 3 rfl _ _ rfl rfl _ _ hr6 ?_)
              obtain ⟨P, hP⟩ : ∃ P, refPad L = P := ⟨_, rfl⟩
              have HPP := Lib.hid hP
              have HPB := Lib.hid (show be8 (8 * L.length) 8 (M ++ List.replicate 8 0) = P ∧ True from ⟨by rw [← hP, refPad, HXM.out], trivial⟩)
              have HPL := Lib.hid (show P.length = M.length + 16 by rw [← hP, refPad_len]; have := hM.out; rw [HXM.out]; simp; omega)
              have HPY := Lib.hid (show Byt P by rw [← hP]; exact refPad_byt HY.out)
              have HPM := Lib.hid (show P.length = 128 * (P.length / 128) ∧ P.length ≤ 1000300 from by
                have h1 := refPad_len L
                rw [hP] at h1
                have h2 : padZ L.length = (240 - (L.length + 1) % 128) % 128 := rfl
                omega)
              clear hP HXM hX ho hb HZ hr6
              go_loopw [8, 9] (fun vm vi wr => ∃ (k : Nat) (N : List Int), k ≤ 8 ∧ vi = .int .i64 ((k : Int) - 1) ∧ Hid (N.length + k = P.length) ∧ N.length ≤ 1000300 ∧ Hid (be8 (8 * L.length) k N = P ∧ True) ∧ Hid (wr.ownsRow w3.heap.size 5 1 vm N.length (ints .u8 N)) ∧ Hid (Below w3.heap.size w3 wr)) (fun _ vi _ => (intOf vi + 1).toNat)
              case atStart => exact ⟨8, M ++ List.replicate 8 0, by omega, rfl, Lib.hid (by have := HPL.out; simp; omega), by simp; omega, HPB, Lib.hid (by simpa using HO6.out), HB6⟩
              case round =>
                clear HO6 HB6 HPB
                obtain ⟨k, N, hk, rfl, hNl, hNb, hX, ho, hb⟩ := hrel
                rcases k with _ | k
                · rw [show ((0 : Nat) : Int) - 1 = -1 by rfl]
                  obtain rfl : N = P := hX.out.1
                  clear hX
                  obtain ⟨gm, cm, hvm, hgm⟩ := own_form ho.out (by have := HPM.out; have := HPL.out; omega)
                  have hcm := own_cap ho.out (by have := HPM.out; have := HPL.out; omega) gm cm hvm
                  subst hvm
                  obtain ⟨nb, hnb⟩ : ∃ nb, N.length / 128 = nb := ⟨_, rfl⟩
                  have HNB := Lib.hid (show N.length = 128 * nb by rw [← hnb]; exact HPM.out.1)
                  have hNL : N.length ≤ 128 * nb ∧ 128 * nb ≤ N.length := by have := HNB.out; omega
                  clear hnb
                  have HE0 := Lib.hid (show (eatF beginL (N.drop (128 * 0))).1 = (eatF beginL N).1 ∧ True from ⟨rfl, trivial⟩)
                  obtain ⟨E, hE⟩ : ∃ E, (eatF beginL N).1 = E := ⟨_, rfl⟩
                  have HER := Lib.hid (show outI E 48 0 [] = R ∧ True from ⟨by rw [← hE, ← HPP.out, ← HR.out.1, refDigest], trivial⟩)
                  have HEL := Lib.hid (show E.length = 8 by rw [← hE, eatF_len]; rfl)
                  rw [hE] at HE0
                  have HM0 := Lib.hid (show Ints .u8 wr (some ⟨gm, 0, none⟩) N from by
                    obtain ⟨A9, c9, hv9, hi9⟩ := Ints.own ho.out
                    simp only [Value.slice.injEq] at hv9
                    rw [hv9.1]; exact hi9)
                  have HB0 := Lib.hid (HB3.out.trans (hb.out.mono HB3.out.size))
                  have HH0 := Lib.hid (own_below HH3.out hb.out)
                  have HK0 := Lib.hid (own_below HK.out hb.out)
                  have hgmh : gm ≠ gh := by omega
                  clear hE ho hb HR HPP HPL HPM HK HH3 HB3 hNl
                  go_wp2
                  go_loopw [10] (fun vi wr => ∃ (q : Nat) (Hq : List (BitVec 64)), q ≤ nb ∧ vi = .int .i64 (128 * (q : Int)) ∧ Hid (Hq.length = 8) ∧ Hid ((eatF Hq (N.drop (128 * q))).1 = E ∧ True) ∧ Hid (wr.ownsRow 0 40 1 (.slice (some ⟨gh, 0, none⟩) 8 ch) 8 (us Hq)) ∧ Hid (wr.ownsRow 0 40 1 (.slice (some ⟨gc, 0, none⟩) 80 cc) 80 (us constL)) ∧ Hid (Ints .u8 wr (some ⟨gm, 0, none⟩) N) ∧ Hid (Below w.heap.size w wr)) (fun vi _ => nb - (intOf vi).toNat / 128)
                  case atStart => exact ⟨0, beginL, by omega, rfl, Lib.hid rfl, HE0, HH0, HK0, HM0, HB0⟩
                  case round =>
                    clear HE0 HH0 HK0 HM0 HB0
                    obtain ⟨q, Hq, hq, rfl, hHl, hX, HH, HK, HM, HB⟩ := hrel
                    by_cases hlt : q < nb
                    · have hsl : ∀ W : World, (Instr.sliceAt 25 (.slice (some ⟨gm, 0, none⟩) N.length cm) (some (.int .i64 (128 * (q : Int)))) (some (.int .i64 (128 * (q : Int) + 128))) none).run Try.prog W = .ok (.slice (some ⟨gm, 128 * q, none⟩) 128 (cm - 128 * q)) W := fun W => by
                        have h := run_cutB (P := Try.prog) W Try.underlying25 (fun w => by kernel_rfl) gm 0 N.length cm (128 * q) (128 * q + 128) (by omega) (by omega) (by omega)
                        rw [show 128 * q + 128 - 128 * q = 128 by omega, Nat.zero_add] at h
                        simpa using h
                      have HIB := Lib.hid (show Ints .u8 wr (some ⟨gm, 128 * q, none⟩) ((N.drop (128 * q)).take 128) from by
                        have h := (HM.out.tail (n := 128 * q)).take 128
                        simpa [Addr.add_lit] using h)
                      have HXN := Lib.hid (show (eatF (mixF Hq ((N.drop (128 * q)).take 128)) (N.drop (128 * (q + 1)))).1 = E from by
                        rw [← hX.out.1, eatF_big Hq (L := N.drop (128 * q)) (by simp <;> omega), List.drop_drop, show 128 * q + 128 = 128 * (q + 1) by omega])
                      clear hX
                      go_wp2_with (go_at_call 21; refine (block_any gh ch gc cc (some ⟨gm, 128 * q, none⟩) ((N.drop (128 * q)).take 128) (cm - 128 * q) wr Hq hHl.out (by simp <;> omega) (byt_take (byt_drop HPY.out _) _) (by omega) HIB.out HH.out HK.out).mono ?_; rintro e w8 ⟨rfl, ho8, ht8⟩; have HO8 := Lib.hid ho8; have HT8 := Lib.hid ht8; clear ho8 ht8)
                      go_roundw
                      case rel => exact ⟨q + 1, mixF Hq ((N.drop (128 * q)).take 128), by omega, (by rw [show 128 * (q : Int) + 128 = 128 * ((q + 1 : Nat) : Int) by omega]), Lib.hid (by rw [mixF_len]; exact hHl.out), Lib.hid ⟨HXN.out, trivial⟩, HO8, Lib.hid (HT8.out.grownBut HK.out (by simp [Value.ownBlock] <;> omega) (.inr (by simp [Value.ownBlock]))), Lib.hid (HM.out.tch HT8.out (fun a ha => by simp at ha; subst ha; exact hgmh)), Lib.hid (HB.out.trans (HT8.out.toBelow HB.out.size hgw (fun k hk => by simp at hk)))⟩
                      case measure => (simp [intOf] <;> omega)
                    · obtain rfl : q = nb := by omega
                      obtain rfl : Hq = E := by
                        have := hX.out.1
                        rw [List.drop_eq_nil_of_le (by omega), eatF_small Hq (L := []) (by simp)] at this
                        exact this
                      obtain ⟨w9, hw9⟩ : ∃ w9, w9 = wr := ⟨_, rfl⟩
                      subst hw9
                      have HH9 := Lib.hid HH.out
                      clear hX HH HK HM
                      go_wp2
                      go_loopw [11, 12] (fun vo vi wr => ∃ (i : Nat) (X : List Int), i ≤ 48 ∧ vi = .int .i64 i ∧ X.length ≤ 48 ∧ Hid (X.length = i) ∧ Hid (outI Hq (48 - i) i X = R ∧ True) ∧ Hid (wr.ownsRow w9.heap.size 5 1 vo X.length (ints .u8 X)) ∧ Hid (Below w9.heap.size w9 wr)) (fun _ vi _ => 48 - (intOf vi).toNat)
                      case atStart => exact ⟨0, [], by omega, rfl, by simp, rfl, HER, World.ownsRow_nil _ _ _ _, Below.refl _ _⟩
                      case round =>
                        clear HER
                        obtain ⟨i, X, hi, rfl, hXl, hXi, hX, ho, hb⟩ := hrel
                        by_cases hlt : i < 48
                        · obtain ⟨x, hx⟩ : ∃ x, Hq.getD (i / 8) 0 = x := ⟨_, rfl⟩
                          have c0 : wr.cell? ⟨gh, i / 8, none⟩ = some (.int .u64 (x.toNat : Int)) := by rw [← hx]; exact own_cellU (own_below HH9.out hb.out) (i / 8) (by omega)
                          have HXN := Lib.hid (show outI Hq (48 - (i + 1)) (i + 1) (X ++ [wordByte x (i % 8)]) = R by rw [← hX.out.1, show 48 - i = (48 - (i + 1)) + 1 by omega, outI, hx])
                          clear hX hx
                          generalize hm : x.toNat = m at c0
                          have HV := Lib.hid (show (m : Int) / 2 ^ (56 - 8 * (i % 8)) % 256 = wordByte x (i % 8) by rw [wordByte, hm]; simp)
                          clear hm
                          go_wp2_with (at_builtin; refine wp_append_src (w0 := w9) w9.heap.size 1 1 (.tmp 85) (.tmp 98) 25 25 5 rfl rfl Try.underlying25 j1 jz0 jz1 jz2 rfl (by decide) (ho.out.alloc _) rfl ((ints_lit wr .u8 5 [_]).src Try.underlying25 1) rfl (by unfold maxLen; simp; omega) (by simp; omega) (hb.out.alloc hb.out.size _) (by have := hb.out.size; simp; omega) (Nat.le_refl _) ?_; intro v7 w7 ho7 hb7 _ _; rw [ints_append, HV.out] at ho7; have HO7 := Lib.hid ho7; have HB7 := Lib.hid hb7; clear ho7 hb7)
                          go_roundw
                          case rel => exact ⟨i + 1, X ++ [wordByte x (i % 8)], by omega, by go_num, by have := hXi.out; simp; omega, Lib.hid (by have := hXi.out; simp; omega), Lib.hid ⟨HXN.out, trivial⟩, Lib.hid (by simpa using HO7.out), HB7⟩
                          case measure => (simp [intOf] <;> omega)
                        · obtain rfl : i = 48 := by omega
                          obtain rfl : X = R := hX.out.1
                          go_wp2
                          go_ret
                          exact ⟨_, rfl, World.ownsRow.mono ho.out HB.out.size, HB.out.trans (hb.out.mono HB.out.size)⟩
                · rw [show ((k + 1 : Nat) : Int) - 1 = (k : Int) by omega]
                  have HXN := Lib.hid (show be8 (8 * L.length) k (N ++ [((8 * L.length / 2 ^ (8 * k) % 256 : Nat) : Int)]) = P from hX.out.1)
                  have HV := Lib.hid (show (L.length : Int) * 8 / 2 ^ (8 * k) % 256 = ((8 * L.length / 2 ^ (8 * k) % 256 : Nat) : Int) by simp [Int.mul_comm])
                  clear hX
                  go_wp2_with (at_builtin; refine wp_append_src (w0 := w3) w3.heap.size 1 1 (.tmp 55) (.tmp 65) 25 25 5 rfl rfl Try.underlying25 j1 jz0 jz1 jz2 rfl (by decide) (ho.out.alloc _) rfl ((ints_lit wr .u8 5 [_]).src Try.underlying25 1) rfl (by unfold maxLen; simp; omega) (by simp; omega) (hb.out.alloc hb.out.size _) (by have := hb.out.size; simp; omega) (Nat.le_refl _) ?_; intro v7 w7 ho7 hb7 _ _; rw [ints_append, HV.out] at ho7; have HO7 := Lib.hid ho7; have HB7 := Lib.hid hb7; clear ho7 hb7)
                  go_roundw
                  case rel => exact ⟨k, N ++ [((8 * L.length / 2 ^ (8 * k) % 256 : Nat) : Int)], by omega, rfl, Lib.hid (by have := hNl.out; simp; omega), by have := hNl.out; have := HPM.out; simp; omega, Lib.hid ⟨HXN.out, trivial⟩, Lib.hid (by simpa using HO7.out), HB7⟩
                  case measure => (simp [intOf] <;> omega)
            · obtain ⟨k, rfl⟩ : ∃ k, gk = k + 1 := ⟨gk - 1, by omega⟩
              have ht : ((M.length : Int) % 128 != 112) = true := by
                have := hM.out
                rw [bne_iff_ne]; omega
              clear hz hk
              go_wp2_with (at_builtin; refine wp_append_src (w0 := w3) w3.heap.size 1 1 (.tmp 46) (.tmp 47) 25 25 5 rfl rfl Try.underlying25 j1 jz0 jz1 jz2 rfl (by decide) (ho.out.alloc _) rfl ((ints_lit wr .u8 5 [_]).src Try.underlying25 1) rfl (by unfold maxLen; simp; omega) (by simp; omega) (hb.out.alloc hb.out.size _) (by have := hb.out.size; simp; omega) (Nat.le_refl _) ?_; intro v7 w7 ho7 hb7 _ _; rw [ints_append] at ho7; obtain ⟨A7, c7, hv7, _⟩ := Ints.own ho7; rw [show (M ++ [(0 : Int)]).length = M.length + 1 by simp] at hv7; subst hv7; have HO7 := Lib.hid ho7; have HB7 := Lib.hid hb7; clear ho7 hb7)
              go_roundg k
              case measure => omega
              case rel => exact ⟨q + 1, M ++ [0], A7, c7, by simp, by omega, by have := hM.out; have := HZ.out; simp; omega, Lib.hid (by have := hM.out; simp; omega), Lib.hid ⟨by rw [hX.out.1, List.replicate_succ']; simp, trivial⟩, Lib.hid (by simpa using HO7.out), HB7⟩
end Go.Proofs.Ytkodmicocjklcaa
