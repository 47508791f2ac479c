/- rhzlaw8.ShaCuts: what the call comes to. -/
import Derived.Test.YtkodmicocjklcaaShHas
namespace Go.Proofs.Ytkodmicocjklcaa
open Go.RowKit

theorem run_cut0 {P : Program} (w : World) {t e : TypeId} (ht : P.underlying t = some (.slice e)) (hs : ∀ w, (sizeOf e).run P w = .ok 1 w) (A : Option Addr) (len cap hi : Nat) (h2 : hi ≤ cap) :
    (Instr.sliceAt t (.slice A len cap) none (some (.int .i64 (hi : Int))) none).run P w = .ok (.slice (if cap = 0 then A else A.map (·.add 0)) hi cap) w := by
  have he : P.elem t = e := by simp [Program.elem, ht]
  have ht' : P.underlying t = some (.slice (P.elem t)) := by rw [he]; exact ht
  rw [run_sliceAt_slice w t _ _ _ _ ht', run_slice_h w t A len cap ht' .i64 hi (by omega) (by omega), he, hs]
  simp [Result.andThen, sliced]
theorem run_cutL {P : Program} (w : World) {t e : TypeId} (ht : P.underlying t = some (.slice e)) (hs : ∀ w, (sizeOf e).run P w = .ok 1 w) (A : Option Addr) (len cap lo : Nat) (h1 : lo ≤ len) (h2 : len ≤ cap) :
    (Instr.sliceAt t (.slice A len cap) (some (.int .i64 (lo : Int))) none none).run P w = .ok (.slice (if cap = lo then A else A.map (·.add lo)) (len - lo) (cap - lo)) w := by
  have he : P.elem t = e := by simp [Program.elem, ht]
  have ht' : P.underlying t = some (.slice (P.elem t)) := by rw [he]; exact ht
  rw [run_sliceAt_slice w t _ _ _ _ ht', run_slice_l w t A len cap ht' .i64 lo (by omega) (by omega), he, hs]
  simp [Result.andThen, sliced]
theorem intsF_old {w0 w : World} {A : Option Addr} {xs : List Int} (h : Ints .u8 w0 A xs) (hb : Below w0.heap.size w0 w) {g : Nat} {vb : Option Nat} (hg : w0.heap.size ≤ g) (hv : ∀ k, vb = some k → w0.heap.size ≤ k) : IntsF g vb w A xs := by
  refine ⟨h.below hb, fun hn a ha => ?_⟩
  obtain ⟨b', off', hA', hx'⟩ := h hn
  have hc := hx' 0 (List.length_pos_iff.2 hn)
  rw [ha] at hA'
  have e : a.block = b' := by simp only [Option.some.injEq] at hA'; rw [hA']
  have hlt : b' < w0.heap.size := World.block_lt_of_cell? w0 _ hc
  rw [e]
  exact ⟨by omega, fun e => by have := hv b' e.symm; omega⟩
/-- Rows in a block that was just made. -/
theorem rows_new {w : World} {vs : List Value} {ls : List (List Int)} (hl : vs.length = ls.length) (h : ∀ j, j < ls.length → BV w (vs.getD j (.bool false)) (ls.getD j [])) : Rows (w.alloc (.cells vs.toArray 25)) (some ⟨w.heap.size, 0, none⟩) ls := fun _ => by
  refine ⟨w.heap.size, 0, rfl, fun j hj => ⟨vs.getD j (.bool false), ?_, (h j hj).below ((Below.refl _ _).alloc (Nat.le_refl _) _)⟩⟩
  rw [Nat.zero_add, cell_of_row _ _ _ _ _ (0, 0) (heap_alloc_new w _)]
  simp [List.getD_eq_getElem?_getD, show j < vs.length by omega]
def BVF (g : Nat) (vb : Option Nat) (w : World) (v : Value) (l : List Int) : Prop := ∃ A c, v = .slice A l.length c ∧ l.length ≤ c ∧ IntsF g vb w A l
theorem rowsF_new {w : World} {g : Nat} {vb : Option Nat} {vs : List Value} {ls : List (List Int)} (hl : vs.length = ls.length) (h : ∀ j, j < ls.length → BVF g vb w (vs.getD j (.bool false)) (ls.getD j [])) (hg : g < w.heap.size) (hv : ∀ k, vb = some k → k < w.heap.size) : RowsF g vb (w.alloc (.cells vs.toArray 25)) (some ⟨w.heap.size, 0, none⟩) ls := fun _ => by
  refine ⟨w.heap.size, 0, rfl, ⟨by omega, fun e => by have := hv _ e.symm; omega⟩, fun j hj => ?_⟩
  obtain ⟨A', c', h1, h2, h3⟩ := h j hj
  refine ⟨A', c', ?_, h2, h3.ints.below ((Below.refl _ _).alloc (Nat.le_refl _) _), h3.far⟩
  rw [Nat.zero_add, cell_of_row _ _ _ _ _ (0, 0) (heap_alloc_new w _), ← h1]
  simp [List.getD_eq_getElem?_getD, show j < vs.length by omega]
theorem bvF_nil (g : Nat) (vb : Option Nat) (w : World) : BVF g vb w (.slice none 0 0) [] := ⟨none, 0, rfl, Nat.le_refl _, Ints.nil _ _ _, fun h => absurd rfl h⟩
theorem bv_nil (w : World) : BV w (.slice none 0 0) [] := ⟨none, 0, rfl, Nat.le_refl _, Ints.nil _ _ _⟩
theorem one_get {α : Type} {p : Nat → Prop} {l : List α} (hl : l.length = 1) (h : p 0) : ∀ j, j < l.length → p j := fun j hj => by
  obtain rfl : j = 0 := by omega
  exact h

set_option maxRecDepth 100000 in
set_option maxHeartbeats 4000000 in
theorem cuts_walk (A : Option Addr) (l : List Int) (c : Nat) (cut : Int) (w : World) (hl : l.length ≤ maxLen) (hlc : l.length ≤ c) (hy : Byt l) (hA : Ints .u8 w A l) :
    Calls Try.prog 5 #[.slice A l.length c, .int .i64 cut] w fun e w' => e = .returned (.bool true) ∧ Below w.heap.size w w' := by
  unfold maxLen at hl
  by_cases hbad : 3000 < l.length ∨ cut < 0 ∨ (l.length : Int) < cut
  · have HQ := Lib.hid True.intro
    clear hA hy hlc
    by_cases h1 : 3000 < l.length
    rotate_left
    by_cases h2 : cut < 0
    rotate_left
    have h3 : (l.length : Int) < cut := by omega
    all_goals
      clear hbad
      go_enter Try.func5, Try.ntmps5
      go_wp2_with (first
        | (go_at_call 6; clear HQ; refine (first_any w).mono ?_; rintro e w1 ⟨rfl, hb1⟩; have HB1 := Lib.hid hb1; clear hb1)
        | (go_at_call 6; refine (first_any w1).mono ?_; rintro e w2 ⟨rfl, hb2⟩; have HB2 := Lib.hid (below_then HB1.out hb2); clear hb2))
      go_ret
      exact ⟨rfl, HB2.out⟩
  · obtain ⟨k, rfl⟩ := Int.eq_ofNat_of_zero_le (show 0 ≤ cut by omega)
    have hk : k ≤ l.length := by omega
    have h3 : l.length ≤ 3000 := by omega
    obtain ⟨X, hX⟩ : ∃ X, l.take k = X := ⟨_, rfl⟩
    obtain ⟨Y, hYe⟩ : ∃ Y, l.drop k = Y := ⟨_, rfl⟩
    have HXY := Lib.hid (show X ++ Y = l by rw [← hX, ← hYe]; exact List.take_append_drop k l)
    have HXL := Lib.hid (show X.length = k by rw [← hX, List.length_take]; omega)
    have HYL := Lib.hid (show Y.length = l.length - k by rw [← hYe, List.length_drop])
    have HBX := Lib.hid (show Byt X by rw [← hX]; exact byt_take hy k)
    have HBY := Lib.hid (show Byt Y by rw [← hYe]; exact byt_drop hy k)
    obtain ⟨A1, hA1⟩ : ∃ A1, A1 = (if c = 0 then A else A.map (·.add 0)) := ⟨_, rfl⟩
    obtain ⟨A2, hA2⟩ : ∃ A2, A2 = (if c = k then A else A.map (·.add k)) := ⟨_, rfl⟩
    have hsl := fun W => run_cut0 (P := Try.prog) W Try.underlying25 (fun w => by kernel_rfl) A l.length c k (by omega)
    have hsl2 := fun W => run_cutL (P := Try.prog) W Try.underlying25 (fun w => by kernel_rfl) A l.length c k hk hlc
    rw [← hA1] at hsl
    have HSL := Lib.hid hsl
    rw [← hA2] at hsl2
    have HI1 := Lib.hid (show Ints .u8 w A1 X by
      obtain ⟨A', c', hv, _, hi⟩ := hA.cut hlc (Nat.zero_le k) hk
      simp only [Value.slice.injEq] at hv
      rw [hA1, hv.1]
      simpa [hX] using hi)
    have HI2 := Lib.hid (show Ints .u8 w A2 Y by
      obtain ⟨A', c', hv, _, hi⟩ := hA.cut hlc hk (Nat.le_refl _)
      simp only [Value.slice.injEq] at hv
      rw [hA2, hv.1, ← hYe]
      rw [← List.length_drop, List.take_length] at hi
      exact hi)
    have HA := Lib.hid hA
    have HY := Lib.hid hy
    have hc0 : X.length ≤ c := by have := HXL.out; omega
    have hc1 : Y.length ≤ c - k := by have := HYL.out; omega
    have HC0 := Lib.hid hc0
    have HC1 := Lib.hid hc1
    clear hA hy hbad hl hX hYe hA1 hA2 hc0 hc1
    go_enter Try.func5, Try.ntmps5
    go_wp2_with fail
    refine (first_any w).mono ?_
    rintro e w1 ⟨rfl, hb1⟩
    have HB1 := Lib.hid hb1
    clear hb1
    go_wp2_with fail
    refine (new_has w1).mono ?_
    rintro e w2 ⟨g, rfl, hg, hs2, hb2⟩
    have HG := Lib.hid (show w.heap.size ≤ g from Nat.le_trans HB1.out.size hg)
    have HS2 := Lib.hid hs2
    have HGL := Lib.hid (show g < w2.heap.size from (Array.getElem?_eq_some_iff.1 hs2.st).1)
    have HB2 := Lib.hid (below_then HB1.out hb2)
    clear hs2 hb2 hg HB1
    go_wp2_with fail
    have hw3 := rowsF_new (w := w2) (g := g) (vb := none) (vs := [.slice A1 k c]) (ls := [X]) rfl (one_get rfl ⟨A1, c, by simp [HXL.out], by simpa using HC0.out, intsF_old HI1.out HB2.out HG.out (fun k hk => by simp at hk)⟩) HGL.out (fun k hk => by simp at hk)
    refine (Has.write (HS2.out.below ((Below.refl _ w2).alloc (Nat.le_refl _) _)) (d := 1) (by simp) (by simp) (by have := HXL.out; simp [tot]; omega) byt_nil (fun l hl => by simp at hl; subst hl; exact HBX.out) hw3).mono ?_
    rintro e w3 ⟨ht3, A3, c3, rfl, hs3⟩
    rw [show [] ++ [X].flatten = X by simp] at hs3
    have HB3 := Lib.hid ((HB2.out.alloc HB2.out.size (.cells #[.slice A1 k c] 25)).trans (ht3.toBelow (by have := HB2.out.size; simp; omega) HG.out (fun k hk => by simp [Value.ownBlock] at hk)))
    have hz3 : w2.heap.size + 1 ≤ w3.heap.size := by have := ht3.size; simpa using this
    have HS3 := Lib.hid hs3
    have HV3 := Lib.hid (World.ownsRow.lt hs3.left)
    have HZ3 := Lib.hid hz3
    clear ht3 hs3 hw3 HS2 hz3
    go_wp2_with fail
    refine (HS3.out.sum (by have := HXL.out; omega) HBX.out).mono ?_
    rintro e w4 ⟨Ax, cx, rfl, hx4, hb4⟩
    have HX4 := Lib.hid hx4
    have HVX := Lib.hid (World.ownsRow.lt hx4)
    have HS4 := Lib.hid (HS3.out.below hb4)
    have HZ4 := Lib.hid hb4.size
    have HB4 := Lib.hid (below_then HB3.out hb4)
    clear hx4 hb4 HS3
    go_wp2_with fail
    refine (HS4.out.copy (by have := HXL.out; omega)).mono ?_
    rintro e w5 ⟨Ac, cc, rfl, hs5, hb5⟩
    have HC5 := Lib.hid hs5
    have HVC := Lib.hid (World.ownsRow.lt hs5.left)
    have HCL := Lib.hid (show w4.heap.size < w5.heap.size from (Array.getElem?_eq_some_iff.1 hs5.st).1)
    have HS5 := Lib.hid (HS4.out.below hb5)
    have HX5 := Lib.hid (OwnB.below HX4.out hb5)
    have HB5 := Lib.hid (below_then HB4.out hb5)
    have HZ5 := Lib.hid hb5.size
    clear hs5 hb5 HS4 HX4
    go_wp2_with fail
    have hw5 := rowsF_new (w := w5) (g := g) (vb := (Value.slice A3 (eatF beginL X).2.length c3).ownBlock) (vs := [.slice none 0 0, .slice A2 (l.length - k) (c - k)]) (ls := [[], Y]) rfl
      (fun j hj => by
        rcases j with _ | _ | j
        · exact bvF_nil _ _ _
        · exact ⟨A2, c - k, by simp [HYL.out], by simpa using HC1.out, intsF_old HI2.out HB5.out HG.out (fun q hq => by have h1 := (HV3.out q hq).1; have h2 := HB2.out.size; simp at h1; omega)⟩
        · simp at hj; omega)
      (by have h1 := HGL.out; have h2 := HZ3.out; have h3 := HZ4.out; have h4 := HZ5.out; omega) (fun q hq => by have h1 := (HV3.out q hq).2; have h3 := HZ4.out; have h4 := HZ5.out; omega)
    refine (Has.write (HS5.out.below ((Below.refl _ w5).alloc (Nat.le_refl _) _)) (d := 2) (by simp) (by have := HXL.out; omega) (by have := HYL.out; simp [tot]; omega) HBX.out (fun l hl => by simp at hl; rcases hl with rfl | rfl; exact byt_nil; exact HBY.out) hw5).mono ?_
    rintro e w6 ⟨ht6, A6, c6, rfl, hs6⟩
    rw [show X ++ [[], Y].flatten = l by simpa using HXY.out] at hs6
    have HB6 := Lib.hid ((HB5.out.alloc HB5.out.size (.cells #[.slice none 0 0, .slice A2 (l.length - k) (c - k)] 25)).trans (ht6.toBelow (by have := HB5.out.size; simp; omega) HG.out (fun q hq => by have h1 := (HV3.out q hq).1; have h2 := HB2.out.size; simp at h1; omega)))
    have HZ6 := Lib.hid (show w5.heap.size + 1 ≤ w6.heap.size by have := ht6.size; simpa using this)
    have hgz : g < w3.heap.size := by have h1 := HGL.out; have h2 := HZ3.out; omega
    have HX6 := Lib.hid (own_apart (OwnB.below HX5.out ((Below.refl _ w5).alloc (Nat.le_refl _) _)) ht6 (fun e => by have := (HVX.out g e).1; omega) (fun q hq e => by have h1 := (HV3.out q hq).2; have h2 := (HVX.out q e).1; omega))
    have HC6 := Lib.hid ((HC5.out.below ((Below.refl _ w5).alloc (Nat.le_refl _) _)).apart ht6 (by have := HZ4.out; omega) (fun e => by have := (HVC.out g e).1; have := HZ4.out; omega) (fun q hq => ⟨by have h1 := (HV3.out q hq).2; have := HZ4.out; omega, fun e => by have h1 := (HV3.out q hq).2; have h2 := (HVC.out q e).1; have := HZ4.out; omega⟩))
    have HS6 := Lib.hid hs6
    have HV6 := Lib.hid (fun q hq => by have := (World.ownsRow.lt hs6.left q hq).1; simpa using this : ∀ q, (Value.slice A6 (eatF beginL l).2.length c6).ownBlock = some q → w5.heap.size + 1 ≤ q)
    clear ht6 hs6 hw5 HS5 HX5 HC5 hsl2
    go_wp2_with fail
    refine (HS6.out.write (B := none) (ls := []) (d := 0) (by simp) (by omega) (by simp [tot]) HY.out (fun l hl => by simp at hl) (fun h => absurd rfl h)).mono ?_
    rintro e w7 ⟨ht7, A7, c7, rfl, hs7⟩
    rw [show l ++ ([] : List (List Int)).flatten = l by simp] at hs7
    have HB7 := Lib.hid (HB6.out.trans (ht7.toBelow HB6.out.size HG.out (fun q hq => by have h1 := HV6.out q hq; have := HB5.out.size; omega)))
    have HX7 := Lib.hid (own_apart HX6.out ht7 (fun e => by have := (HVX.out g e).1; omega) (fun q hq e => by have h1 := HV6.out q hq; have h2 := (HVX.out q e).2; have := HZ5.out; omega))
    have HC7 := Lib.hid (HC6.out.apart ht7 (by have := HZ4.out; omega) (fun e => by have := (HVC.out g e).1; have := HZ4.out; omega) (fun q hq => ⟨by have h1 := HV6.out q hq; have := HZ5.out; omega, fun e => by have h1 := HV6.out q hq; have h2 := (HVC.out q e).2; omega⟩))
    have HS7 := Lib.hid hs7
    clear ht7 hs7 HS6 HX6 HC6
    go_wp2_with fail
    refine (first_any w7).mono ?_
    rintro e w8 ⟨rfl, hb8⟩
    have HB8 := Lib.hid (below_then HB7.out hb8)
    have HX8 := Lib.hid (OwnB.below HX7.out hb8)
    have HC8 := Lib.hid (HC7.out.below hb8)
    have HS8 := Lib.hid (HS7.out.below hb8)
    clear hb8 HX7 HC7 HS7 HB7 hsl
    go_wp2_with fail
    refine (HS8.out.sum (by omega) HY.out).mono ?_
    rintro e w9 ⟨A9, c9, rfl, h9, hb9⟩
    have H9 := Lib.hid h9
    have HK9 := Lib.hid hb9
    clear h9 hb9
    go_wp2_with fail
    refine (sum_at (L := l) rfl (by simp) (by simp) (by omega) (fun x hx => by simp at hx; subst hx; exact HY.out) (rows_new (w := w9) (vs := [.slice A l.length c]) (ls := [l]) rfl (one_get rfl ⟨A, c, rfl, hlc, HA.out.below (HB8.out.trans (HK9.out.mono HB8.out.size))⟩))).mono ?_
    rintro e w10 ⟨A10, c10, rfl, h10, hb10⟩
    have hk := below_then ((Below.refl _ w9).alloc (Nat.le_refl _) (.cells #[.slice A l.length c] 25)) hb10
    have HK10 := Lib.hid (below_then HK9.out hk)
    have H9' := Lib.hid (OwnB.below H9.out hk)
    have H10 := Lib.hid h10
    clear h10 hb10 hk H9 HK9
    go_wp2_with fail
    refine (bytes_at A9 A10 (digest l) (digest l) 48 48 c9 c10 w10 H9'.out.ints.1 H10.out.ints.1 rfl H9'.out.ints.2 H10.out.ints.2).mono ?_
    rintro e w11 ⟨rfl, rfl⟩
    clear H9' H10
    have hsl := HSL.out
    go_wp2_with fail
    clear hsl
    refine (sum_at (L := X) rfl (by simp) (by simp) (by have := HXL.out; omega) (fun x hx => by simp at hx; subst hx; exact HBX.out) (rows_new (w := w10) (vs := [.slice A1 k c]) (ls := [X]) rfl (one_get rfl ⟨A1, c, by simp [HXL.out], by simpa using HC0.out, HI1.out.below (HB8.out.trans (HK10.out.mono HB8.out.size))⟩))).mono ?_
    rintro e w11 ⟨A11, c11, rfl, h11, hb11⟩
    have hk := below_then ((Below.refl _ w10).alloc (Nat.le_refl _) (.cells #[.slice A1 k c] 25)) hb11
    have HK11 := Lib.hid (below_then HK10.out hk)
    have HX11 := Lib.hid (OwnB.below HX8.out HK11.out)
    have H11 := Lib.hid h11
    clear h11 hb11 hk HK10
    go_wp2_with fail
    refine (bytes_at Ax A11 (digest X) (digest X) 48 48 cx c11 w11 HX11.out.ints.1 H11.out.ints.1 rfl HX11.out.ints.2 H11.out.ints.2).mono ?_
    rintro e w12 ⟨rfl, rfl⟩
    clear H11
    go_wp2_with fail
    refine ((HC8.out.below HK11.out).sum (by have := HXL.out; omega) HBX.out).mono ?_
    rintro e w12 ⟨A12, c12, rfl, h12, hb12⟩
    have HK12 := Lib.hid (below_then HK11.out hb12)
    have HX12 := Lib.hid (OwnB.below HX11.out hb12)
    have H12 := Lib.hid h12
    clear h12 hb12 HK11 HX11
    go_wp2_with fail
    refine (bytes_at A12 Ax (digest X) (digest X) 48 48 c12 cx w12 H12.out.ints.1 HX12.out.ints.1 rfl H12.out.ints.2 HX12.out.ints.2).mono ?_
    rintro e w13 ⟨rfl, rfl⟩
    clear H12 HX12
    go_wp2_with fail
    refine (sum_at (L := l) rfl (by simp) (by simp) (by omega) (fun x hx => by simp at hx; rcases hx with rfl | rfl | rfl; exact byt_nil; exact HY.out; exact byt_nil) (rows_new (w := w12) (vs := [.slice none 0 0, .slice A l.length c, .slice none 0 0]) (ls := [[], l, []]) rfl (fun j hj => by
        rcases j with _ | _ | _ | j
        · exact bv_nil _
        · exact ⟨A, c, rfl, hlc, HA.out.below (HB8.out.trans (HK12.out.mono HB8.out.size))⟩
        · exact bv_nil _
        · simp at hj; omega))).mono ?_
    rintro e w14 ⟨A14, c14, rfl, h14, hb14⟩
    have hk := below_then ((Below.refl _ w12).alloc (Nat.le_refl _) (.cells #[.slice none 0 0, .slice A l.length c, .slice none 0 0] 25)) hb14
    have HK14 := Lib.hid (below_then HK12.out hk)
    have H14 := Lib.hid h14
    clear h14 hb14 hk HK12
    go_wp2_with fail
    refine (sum_at (L := l) rfl (by simp) (by simp) (by omega) (fun x hx => by simp at hx; subst hx; exact HY.out) (rows_new (w := w14) (vs := [.slice A l.length c]) (ls := [l]) rfl (one_get rfl ⟨A, c, rfl, hlc, HA.out.below (HB8.out.trans (HK14.out.mono HB8.out.size))⟩))).mono ?_
    rintro e w15 ⟨A15, c15, rfl, h15, hb15⟩
    have hk := below_then ((Below.refl _ w14).alloc (Nat.le_refl _) (.cells #[.slice A l.length c] 25)) hb15
    have HK15 := Lib.hid (below_then HK14.out hk)
    have H14' := Lib.hid (OwnB.below H14.out hk)
    have H15 := Lib.hid h15
    clear h15 hb15 hk H14 HK14
    go_wp2_with fail
    refine (bytes_at A14 A15 (digest l) (digest l) 48 48 c14 c15 w15 H14'.out.ints.1 H15.out.ints.1 rfl H14'.out.ints.2 H15.out.ints.2).mono ?_
    rintro e w16 ⟨rfl, rfl⟩
    clear H14' H15
    go_wp2_with fail
    refine (HS8.out.below HK15.out).len.mono ?_
    rintro e w17 ⟨rfl, rfl⟩
    go_wp2_with fail
    refine (HC8.out.below HK15.out).len.mono ?_
    rintro e w18 ⟨rfl, rfl⟩
    rw [HXL.out]
    go_wp2
    go_ret
    exact ⟨rfl, HB8.out.trans (HK15.out.mono HB8.out.size)⟩
end Go.Proofs.Ytkodmicocjklcaa
