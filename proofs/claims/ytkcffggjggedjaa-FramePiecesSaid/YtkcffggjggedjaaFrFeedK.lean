/- The document's reader: Feed, within the limit. -/
import Derived.Test.YtkcffggjggedjaaFrFeed
import Derived.Deep.RegionLaw
namespace Go.Proofs.Ytkcffggjggedjaa
open Go.RowKit

set_option maxHeartbeats 800000 in
theorem feedB_ok (g : Nat) (most had : Int) (v : Value) (b : List Int) (A : Option Addr) (ls : List (List Int)) (c : Nat) (w : World) (hl : ls.length ≤ 1000000) (h0 : 0 ≤ had) (hH : had + tot ls ≤ 4611686018427387904)
    (hsz : b.length + tot ls ≤ 268435456) (hg : RdB w g most had v false) (hv : OwnB w 0 v b) (hyb : Byt b) (hyl : ∀ l ∈ ls, Byt l) (hA : ∀ wr, Tch g v.ownBlock w wr → Rows wr A ls) (ho : had + tot ls ≤ most) :
    Calls Try.prog 20 #[.pointer (some ⟨g, 0, none⟩), .slice A ls.length c] w fun e w' => Tch g v.ownBlock w w' ∧ ∃ (vo v' : Value) (mid : Nat), e = .returned (.tuple #[vo, .int .i64 0]) ∧ RdB w' g most (had + tot ls) v' false ∧ w.heap.size ≤ mid ∧ mid ≤ w'.heap.size ∧
    OwnB w' mid v' ((b ++ ls.flatten).drop (takeR (b ++ ls.flatten)).2) ∧ OwnM w' w.heap.size mid vo (takeR (b ++ ls.flatten)).1 := by
  obtain ⟨i0, hi, hz0, hz1, hz2⟩ := info_parts (show (Try.prog.info? 5).map (fun i => (i.zero, i.size, i.bytes)) = some (some (.int .u8 0), 1, 1) by kernel_rfl)
  have HA := Lib.hid hA
  have HG := Lib.hid hg
  have HV := Lib.hid hv
  have hX : (b ++ ls.flatten).length ≤ 268435456 := by rw [List.length_append, flat_len]; exact hsz
  have HY := Lib.hid (byt_app hyb (byt_flat hyl))
  have HTL := Lib.hid (takeR_le _ (b ++ ls.flatten) (Nat.le_refl _)).1
  generalize hx : b ++ ls.flatten = X at hX HY HTL ⊢
  have HX := Lib.hid hx
  clear hA hg hv hyb hyl hx hsz
  generalize hh : had + (tot ls : Int) = H at hH ho ⊢
  have HH := Lib.hid hh
  clear hh
  go_enter Try.func20, Try.ntmps20
  go_wp2
  go_loopw [6] (fun vi wr => ∃ (k : Nat) (h : Int), k ≤ ls.length ∧ 0 ≤ h ∧ vi = .int .i64 k ∧ Hid (h + (tot (ls.drop k) : Int) = H) ∧ Hid (RdB wr g most h v false) ∧ Hid (OwnB wr 0 v b) ∧ Hid (Tch g v.ownBlock w wr)) (fun vi _ => ls.length - (intOf vi).toNat)
  case atStart => exact ⟨0, had, by omega, h0, rfl, HH, HG, HV, Tch.refl _ _ _⟩
  case round =>
    obtain ⟨k, h, hk, hh0, rfl, hs, hr, hv, ht⟩ := hrel
    have hhad : wr.cell? ⟨g, 1, none⟩ = some (.int .i64 h) := by rw [cell_of_row wr g 1 _ _ (0, 0) hr.out]; rfl
    have hfr : wr.frozen? ⟨g, 1, none⟩ = false := blk_free hr.out 1
    by_cases hlt : k < ls.length
    · obtain ⟨b1, o1, A', c', rfl, hc, _, _⟩ := (HA.out wr ht.out).look hlt
      have hd : tot (ls.drop k) = (ls.getD k []).length + tot (ls.drop (k + 1)) := by rw [drop_get [] ls hlt, tot_cons]
      have hs2 := hs.out
      rw [hd] at hs2
      generalize ls.getD k [] = x at hc hd hs2
      have hx : h + (x.length : Int) ≤ 4611686018427387904 := by omega
      have HS2 := Lib.hid hs2
      clear hd hs2
      go_wp2
      have hwr : wrap64 (h + (x.length : Int)) = h + x.length := by unfold wrap64; omega
      go_region
      go_wp2
      go_roundw
      case rel => exact ⟨k + 1, h + x.length, by omega, by omega, by go_num, Lib.hid (by have := HS2.out; omega), Lib.hid (blk_put (w := wr.drew) hr.out 1 _), Lib.hid (own_set (own_below hv.out (below_drewN (Below.refl _ _) 1)) (w := wr.drew) hr.out (by decide) 1 _), Lib.hid ((ht.out.below (below_drewN (Below.refl _ _) 1)).set 1 _)⟩
      case measure => simp [intOf]; omega
    · obtain rfl : k = ls.length := by omega
      have hH1 : h = H := by have := hs.out; rw [List.drop_eq_nil_of_le (Nat.le_refl _)] at this; simpa [tot] using this
      subst hH1
      have hc0 : wr.cell? ⟨g, 2, none⟩ = some (.int .i64 most) := by rw [cell_of_row wr g 2 _ _ (0, 0) hr.out]; rfl
      have hc3 : wr.cell? ⟨g, 3, none⟩ = some (.bool false) := by rw [cell_of_row wr g 3 _ _ (0, 0) hr.out]; rfl
      have HR2 := Lib.hid (show RdB (wr.drewN 0) g most h v false from hr.out)
      clear HG HV HH hs
      go_wp2
      go_quiet (fail)
      clear hc0 hc3 hhad hfr
      go_wp2
      have hr' := Lib.hid (show RdB (wr.drewN nq) g most h v false from hr.out)
      have hv' := Lib.hid (show OwnB (wr.drewN nq) 0 v b from own_below hv.out (below_drewN (Below.refl _ _) nq))
      have ht' := Lib.hid (ht.out.below (below_drewN (Below.refl _ _) nq))
      clear hr hv ht HR2
      generalize wr.drewN nq = wr at hr' hv' ht' ⊢
      go_loopw [7] (fun vi wq => ∃ (k : Nat) (L : List Int) (vr : Value), k ≤ ls.length ∧ vi = .int .i64 k ∧ Hid (L ++ (ls.drop k).flatten = X) ∧ Hid (RdB wq g most h vr false) ∧ Hid (OwnB wq 0 vr L) ∧ Hid (vr.ownBlock = v.ownBlock ∨ ∀ n, vr.ownBlock = some n → w.heap.size ≤ n) ∧ Hid (Tch g v.ownBlock w wq)) (fun vi _ => ls.length - (intOf vi).toNat)
      case atStart => exact ⟨0, b, v, by omega, rfl, HX, hr', hv', Lib.hid (.inl rfl), ht'⟩
      case round =>
        clear hr' hv' ht'
        obtain ⟨k, L, vr, hk, rfl, hX', hr, hv, hor, ht⟩ := hrel
        have hLX := congrArg List.length hX'.out
        by_cases hlt : k < ls.length
        · obtain ⟨b1, o1, A', c', hAe, hc, _, hi1⟩ := (HA.out _ ht.out).look hlt
          have hd := congrArg List.flatten (drop_get [] ls hlt)
          rw [List.flatten_cons] at hd
          have hX2 := hX'.out
          rw [hd] at hX2 hLX
          subst hAe
          generalize ls.getD k [] = x at hc hi1 hX2 hLX
          have hLx : L.length + x.length ≤ 268435456 := by simp at hLX; omega
          have HI := Lib.hid hi1
          have HX2 := Lib.hid hX2
          clear hd hX2 hLX hi1
          have hc2 : wr.cell? ⟨g, 0, none⟩ = some vr := by rw [cell_of_row _ g 0 _ _ (0, 0) hr.out]; rfl
          have hlx63 : (L.length : Int) + x.length ≤ 268435456 := by omega
          go_wp2
          go_region_law (refine step_append_src (w0 := World.bare wr.drew) (W := wr.drew) 0 1 1 (.tmp 59) (.tmp 63) 23 23 5 rfl rfl Try.underlying23 hi hz0 hz1 hz2 rfl (by decide) hv.out (by simp [Act.eval]) (Ints.src (P := Try.prog) (w := wr.drew) HI.out Try.underlying23 c') (by simp [Act.eval]) (by unfold maxLen; omega) (by omega) (below_bare _) (Nat.zero_le _) (Nat.le_refl _) ?_; intro v1 w1 ho1 _ hg1 hor1; rw [ints_append] at ho1; obtain ⟨A1, c1, hv1, _⟩ := Ints.own ho1; rw [List.length_append] at hv1; subst hv1; have hr1 := blk_grown (w := wr.drew) hr.out hg1 (own_ne hv.out hr.out (by decide)).symm; have ht1 := Lib.hid ((ht.out.below (below_drewN (Below.refl _ _) 1)).grown hg1 hor.out); have hsz1 := ht.out.size; have hor2 : (Value.slice A1 (L.length + x.length) c1).ownBlock = v.ownBlock ∨ ∀ n, (Value.slice A1 (L.length + x.length) c1).ownBlock = some n → w.heap.size ≤ n := (by rcases hor1 with h1 | h1; (rw [h1]; exact hor.out); (exact .inr (fun n hn => by rw [h1] at hn; simp at hn; omega))); have hc21 : w1.cell? ⟨g, 0, none⟩ = some vr := (by rw [cell_of_row _ g 0 _ _ (0, 0) hr1]; rfl); have hf21 : w1.frozen? ⟨g, 0, none⟩ = false := blk_free hr1 0; have HO1 := Lib.hid ho1; have HR1 := Lib.hid hr1; have HOR := Lib.hid hor2; clear ho1 hg1 hor1 hr1 hor2 hsz1)
          all_goals
            go_wp2
            go_roundw
            case rel =>
              refine ⟨k + 1, L ++ x, .slice A1 (L.length + x.length) c1, by omega, by go_num, Lib.hid (by rw [← HX2.out]; simp), Lib.hid (blk_put HR1.out 0 _), Lib.hid ?_, HOR, Lib.hid (ht1.out.set 0 _)⟩
              have h1 := own_set HO1.out HR1.out (by decide) 0 (.slice A1 (L.length + x.length) c1)
              unfold OwnB
              simpa using h1
            case measure => simp [intOf]; omega
        · obtain rfl : k = ls.length := by omega
          have hXL : L = X := by have := hX'.out; rw [List.drop_eq_nil_of_le (Nat.le_refl _)] at this; simpa using this
          subst hXL
          obtain ⟨Ar, cr, hvr, hcr, hir⟩ := hv.out.bv
          subst hvr
          have HI := Lib.hid hir
          have hc2 : wr.cell? ⟨g, 0, none⟩ = some (.slice Ar L.length cr) := by rw [cell_of_row _ g 0 _ _ (0, 0) hr.out]; rfl
          have htl := HTL.out
          generalize htk : takeR L = T at htl ⊢
          obtain ⟨tl, tn⟩ := T
          have HTK := Lib.hid htk
          simp only at htl
          have hdl : (L.drop tn).length = L.length - tn := by simp
          clear htk hir hLX HX hX' HTL
          by_cases hcn : cr = tn
          · subst hcn
            have hdn := Lib.hid (show L.drop cr = [] from List.drop_eq_nil_of_le (by omega))
            go_wp2_with (first
              | (go_at_call 14; refine (refTake_any Ar L cr _ hX hcr HY.out HI.out).mono ?_; rw [HTK.out]; rintro e w7 ⟨v7, rfl, ho7, hb7⟩; have HO7 := Lib.hid ho7; have hr7 := blk_below hr.out hb7; have HR7 := Lib.hid hr7; have hc7 : w7.cell? ⟨g, 0, none⟩ = some (.slice Ar L.length cr) := (by rw [cell_of_row _ g 0 _ _ (0, 0) hr7]; rfl); have HI7 := Lib.hid (HI.out.below hb7); have HT7 := Lib.hid (ht.out.below hb7); have HS7 := Lib.hid hb7.size; clear ho7 hr7 hb7)
              | (go_at_call 10; refine (copyCut copy_any Ar [] _ 0 w7 w7 rfl (Ints.nil _ _ _) (by omega) (Nat.le_refl _)).mono ?_; rintro e w8 ⟨v8, rfl, ho8, hb8⟩; obtain ⟨A8, c8, hv8, _, _⟩ := ho8.bv; simp only [List.length_nil] at hv8; subst hv8; have hr8 := blk_below HR7.out hb8; have HR8 := Lib.hid hr8; have hc8 : w8.cell? ⟨g, 0, none⟩ = some (.slice Ar L.length cr) := (by rw [cell_of_row _ g 0 _ _ (0, 0) hr8]; rfl); have hf8 : w8.frozen? ⟨g, 0, none⟩ = false := blk_free hr8 0; have HO8 := Lib.hid ho8; have HT8 := Lib.hid (HT7.out.below hb8); have HS8 := Lib.hid hb8.size; have HM8 := Lib.hid (HO7.out.mid.below hb8); clear ho8 hr8 hb8))
            go_ret2
            have hss := ht.out.size
            rw [HTK.out]
            exact ⟨HT8.out.set 0 _, _, _, w7.heap.size, rfl, blk_put HR8.out 0 _, Nat.le_trans hss HS7.out, by have := HS8.out; simpa [World.setCell] using this, by show OwnB _ _ _ (L.drop cr); rw [hdn.out]; exact own_set HO8.out HR8.out (by decide) 0 _, (HM8.out.mono hss).set HR8.out (by decide) (by decide) 0 _⟩
          · have HCUT := Lib.hid (fun (W : World) (h : Ints .u8 W Ar L) => h.tail hcr htl hcn)
            go_wp2_with (first
              | (go_at_call 14; refine (refTake_any Ar L cr _ hX hcr HY.out HI.out).mono ?_; rw [HTK.out]; rintro e w7 ⟨v7, rfl, ho7, hb7⟩; have HO7 := Lib.hid ho7; have hr7 := blk_below hr.out hb7; have HR7 := Lib.hid hr7; have hc7 : w7.cell? ⟨g, 0, none⟩ = some (.slice Ar L.length cr) := (by rw [cell_of_row _ g 0 _ _ (0, 0) hr7]; rfl); have HI7 := Lib.hid (HI.out.below hb7); have HT7 := Lib.hid (ht.out.below hb7); have HS7 := Lib.hid hb7.size; clear ho7 hr7 hb7)
              | (go_at_call 10; refine (copyCut copy_any (Ar.map (·.add tn)) (L.drop tn) _ (L.length - tn) w7 w7 hdl (HCUT.out w7 HI7.out) (by omega) (Nat.le_refl _)).mono ?_; rintro e w8 ⟨v8, rfl, ho8, hb8⟩; obtain ⟨A8, c8, hv8, _, _⟩ := ho8.bv; rw [hdl] at hv8; subst hv8; have hr8 := blk_below HR7.out hb8; have HR8 := Lib.hid hr8; have hc8 : w8.cell? ⟨g, 0, none⟩ = some (.slice Ar L.length cr) := (by rw [cell_of_row _ g 0 _ _ (0, 0) hr8]; rfl); have hf8 : w8.frozen? ⟨g, 0, none⟩ = false := blk_free hr8 0; have HO8 := Lib.hid ho8; have HT8 := Lib.hid (HT7.out.below hb8); have HS8 := Lib.hid hb8.size; have HM8 := Lib.hid (HO7.out.mid.below hb8); clear ho8 hr8 hb8))
            go_ret2
            have hss := ht.out.size
            rw [HTK.out]
            exact ⟨HT8.out.set 0 _, _, _, w7.heap.size, rfl, blk_put HR8.out 0 _, Nat.le_trans hss HS7.out, by have := HS8.out; simpa [World.setCell] using this, own_set HO8.out HR8.out (by decide) 0 _, (HM8.out.mono hss).set HR8.out (by decide) (by decide) 0 _⟩
end Go.Proofs.Ytkcffggjggedjaa
