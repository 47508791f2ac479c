/- rhzlaw8.ShaPieces: what the call comes to. -/
import Derived.Test.YtkodmicocjklcaaShCuts
namespace Go.Proofs.Ytkodmicocjklcaa
open Go.RowKit

theorem Rows.srcAt {P : Program} {w W : World} {A : Option Addr} {ls : List (List Int)} (h : Rows w A ls) (hW : Below w.heap.size w W) {tx e' : TypeId} (hk : P.underlying tx = some (.slice e')) (c : Nat) :
    ∃ vs : List Value, Src P 1 tx (.slice A ls.length c) ls.length vs W ∧ vs.length = ls.length ∧ ∀ j, j < ls.length → BV w (vs.getD j (.bool false)) (ls.getD j []) := by
  by_cases hn : ls = []
  · subst hn
    refine ⟨[], ?_, rfl, fun j hj => by simp at hj⟩
    rcases A with _ | a
    · exact Src.ofNil W hk c
    · exact Src.ofSlice W hk a 0 c [] rfl (fun j u hu => by simp at hu) (fun u hu => by simp at hu)
  · obtain ⟨b, off, rfl, hc⟩ := h hn
    obtain ⟨V, hV⟩ := Go.Deep.choose_lt (n := ls.length) (p := fun j v => w.cell? ⟨b, off + j, none⟩ = some v ∧ BV w v (ls.getD j [])) hc
    have hg : ∀ j, j < ls.length → (((List.range ls.length).map V).getD j (.bool false)) = V j := fun j hj => by simp [List.getD_eq_getElem?_getD, hj]
    refine ⟨(List.range ls.length).map V, Src.ofSlice W hk ⟨b, off, none⟩ ls.length c _ (by simp) (fun j u hu => ?_) (fun u hu => ?_), by simp, fun j hj => by rw [hg j hj]; exact (hV j hj).2⟩
    · have hj : j < ls.length := by
        rcases Nat.lt_or_ge j ls.length with h | h
        · exact h
        · simp [h] at hu
      rw [Addr.add_lit, (hW.cell (World.block_lt_of_cell? w _ (hV j hj).1)).trans (hV j hj).1]
      simp [hj] at hu
      rw [hu]
    · simp only [List.mem_map, List.mem_range] at hu
      obtain ⟨j, hj, rfl⟩ := hu
      obtain ⟨_, A', c', h2, _⟩ := hV j hj
      rw [h2]; rfl
/-- A row of slices that is appended to. -/
theorem ownL_append {w1 : World} {b : Nat} {v1 : Value} {ls ms : List (List Int)} {vs news : List Value} (hl : vs.length = ls.length) (hb : ∀ j, j < ls.length → BV w1 (vs.getD j (.bool false)) (ls.getD j []))
    (hn : news.length = ms.length) (hm : ∀ j, j < ms.length → BV w1 (news.getD j (.bool false)) (ms.getD j [])) (hr : w1.ownsRow b 25 1 v1 (ls.length + ms.length) (vs ++ news)) : OwnL w1 b v1 (ls ++ ms) := by
  refine ⟨vs ++ news, by simp [hl, hn], by simpa using hr, fun j hj => ?_⟩
  by_cases hlt : j < ls.length
  · have e1 : (vs ++ news).getD j (.bool false) = vs.getD j (.bool false) := by simp [List.getD_eq_getElem?_getD, List.getElem?_append, show j < vs.length by omega]
    have e2 : (ls ++ ms).getD j [] = ls.getD j [] := by simp [List.getD_eq_getElem?_getD, List.getElem?_append, hlt]
    rw [e1, e2]; exact hb j hlt
  · have hj' : j - ls.length < ms.length := by simp at hj; omega
    have e1 : (vs ++ news).getD j (.bool false) = news.getD (j - ls.length) (.bool false) := by simp [List.getD_eq_getElem?_getD, List.getElem?_append, hl, if_neg hlt]
    have e2 : (ls ++ ms).getD j [] = ms.getD (j - ls.length) [] := by simp [List.getD_eq_getElem?_getD, List.getElem?_append, hlt]
    rw [e1, e2]; exact hm _ hj'

theorem Has.lefts {w : World} {g : Nat} {A : Option Addr} {c base : Nat} {L : List Int} (h : Has w g A c base L) : ∀ q, (Value.slice A (eatF beginL L).2.length c).ownBlock = some q → base ≤ q ∧ q < w.heap.size := World.ownsRow.lt h.left
theorem Has.here {w : World} {g : Nat} {A : Option Addr} {c base : Nat} {L : List Int} (h : Has w g A c base L) : g < w.heap.size := (Array.getElem?_eq_some_iff.1 h.st).1
theorem OwnB.form {w : World} {base n c : Nat} {A : Option Addr} {l : List Int} (h : OwnB w base (.slice A n c) l) (hn : 0 < n) : ∃ g, A = some ⟨g, 0, none⟩ ∧ base ≤ g := by
  have hl := h.ints.1
  rcases h.2 with ⟨h1, h2⟩ | ⟨g, cap, cur, h1, h2, _⟩
  · omega
  · simp only [Value.slice.injEq] at h1
    exact ⟨g, h1.1, h2⟩
theorem own_row48 {w : World} {base n c g : Nat} {l : List Int} (h : OwnB w base (.slice (some ⟨g, 0, none⟩) n c) l) : w.ownsRow base 5 1 (.slice (some ⟨g, 0, none⟩) n c) n (ints .u8 l) := by
  have hl := h.ints.1
  unfold OwnB at h
  rwa [hl] at h
theorem all_at {A : Option Addr} {ls : List (List Int)} {n c : Nat} {w : World} {L : List Int} (hn : ls.length = n) (hL : ls.flatten = L) (hl : n ≤ 1000000) (ht : L.length ≤ 1000000) (hA : Rows w A ls) :
    Calls Try.prog 8 #[.slice A n c] w fun e w' => ∃ A' c', e = .returned (.slice A' L.length c') ∧ Below w.heap.size w w' := by
  subst hn hL
  refine (all_any A ls c w hl (by rw [← flat_len]; omega) hA).mono ?_
  rintro e w' ⟨v, rfl, ho, hb⟩
  obtain ⟨A', c', hv, _, _⟩ := ho.bv
  subst hv
  exact ⟨A', c', rfl, hb⟩
theorem take_flat (ls : List (List Int)) {i : Nat} (h : i < ls.length) : (ls.take (i + 1)).flatten = (ls.take i).flatten ++ ls.getD i [] := by
  rw [List.take_succ_eq_append_getElem h, List.flatten_append, List.getD_eq_getElem?_getD, List.getElem?_eq_getElem h]; simp
theorem take_tot (ls : List (List Int)) (i : Nat) : ((ls.take i).flatten).length ≤ tot ls := by
  rw [← flat_len]
  have h : ls.flatten = (ls.take i).flatten ++ (ls.drop i).flatten := by rw [← List.flatten_append, List.take_append_drop]
  rw [h, List.length_append]
  omega
theorem get_tot (ls : List (List Int)) {i : Nat} (h : i < ls.length) : (ls.getD i []).length ≤ tot ls := by
  have h1 := take_tot ls (i + 1)
  rw [take_flat ls h, List.length_append] at h1
  omega
theorem get_mem (ls : List (List Int)) {i : Nat} (h : i < ls.length) : ls.getD i [] ∈ ls := by
  rw [List.getD_eq_getElem?_getD, List.getElem?_eq_getElem h]; exact List.getElem_mem h

set_option maxRecDepth 100000 in
set_option maxHeartbeats 8000000 in
theorem pieces_walk (A : Option Addr) (xs : List (List Int)) (ca : Nat) (B : Option Addr) (ys : List (List Int)) (cb : Nat) (w : World) (hlx : xs.length ≤ maxLen) (hmx : ∀ l ∈ xs, l.length ≤ maxLen) (hyx : ∀ l ∈ xs, Byt l) (hA : Rows w A xs)
    (hly : ys.length ≤ maxLen) (hmy : ∀ l ∈ ys, l.length ≤ maxLen) (hyy : ∀ l ∈ ys, Byt l) (hB : Rows w B ys) :
    Calls Try.prog 4 #[.slice A xs.length ca, .slice B ys.length cb] w fun e w' => e = .returned (.bool true) ∧ Below w.heap.size w w' := by
  have HA := Lib.hid hA
  have HMX := Lib.hid hmx
  have HYX := Lib.hid hyx
  have HLX := Lib.hid hlx
  have HB := Lib.hid hB
  have HMY := Lib.hid hmy
  have HYY := Lib.hid hyy
  have HLY := Lib.hid hly
  clear hA hmx hyx hlx hB hmy hyy hly
  rcases hfx : fewF xs with _ | _
  · have HFX := Lib.hid hfx
    clear hfx
    go_enter Try.func4, Try.ntmps4
    go_wp2_with fail
    refine (first_any w).mono ?_
    rintro e w1 ⟨rfl, hb1⟩
    have HB1 := Lib.hid hb1
    clear hb1
    go_wp2_with fail
    refine (few_any A xs ca w1 HLX.out (HA.out.below HB1.out) HMX.out).mono ?_
    rintro e w2 ⟨rfl, rfl⟩
    rw [HFX.out]
    go_wp2_with fail
    refine (first_any w1).mono ?_
    rintro e w3 ⟨rfl, hb3⟩
    have HB3 := Lib.hid (below_then HB1.out hb3)
    clear hb3
    go_wp2
    go_ret
    exact ⟨rfl, HB3.out⟩
  rcases hfy : fewF ys with _ | _
  · have HFX := Lib.hid hfx
    have HFY := Lib.hid hfy
    clear hfx hfy
    go_enter Try.func4, Try.ntmps4
    go_wp2_with fail
    refine (first_any w).mono ?_
    rintro e w1 ⟨rfl, hb1⟩
    have HB1 := Lib.hid hb1
    clear hb1
    go_wp2_with fail
    refine (few_any A xs ca w1 HLX.out (HA.out.below HB1.out) HMX.out).mono ?_
    rintro e w2 ⟨rfl, rfl⟩
    rw [HFX.out]
    go_wp2_with fail
    refine (few_any B ys cb w1 HLY.out (HB.out.below HB1.out) HMY.out).mono ?_
    rintro e w2 ⟨rfl, rfl⟩
    rw [HFY.out]
    go_wp2_with fail
    refine (first_any w1).mono ?_
    rintro e w3 ⟨rfl, hb3⟩
    have HB3 := Lib.hid (below_then HB1.out hb3)
    clear hb3
    go_wp2
    go_ret
    exact ⟨rfl, HB3.out⟩
  obtain ⟨i0, i1, iz0, iz1, iz2⟩ := info_parts (show (Try.prog.info? 25).map (fun i => (i.zero, i.size, i.bytes)) = some (some (.slice none 0 0), 1, 24) by kernel_rfl)
  have HFX := Lib.hid hfx
  have HFY := Lib.hid hfy
  have htx := fewF_tot hfx
  have hty := fewF_tot hfy
  obtain ⟨LA, hla⟩ : ∃ L, xs.flatten = L := ⟨_, rfl⟩
  obtain ⟨LB, hlb⟩ : ∃ L, ys.flatten = L := ⟨_, rfl⟩
  have HFA := Lib.hid (And.intro hla trivial)
  have HFB := Lib.hid (And.intro hlb trivial)
  have hlna : LA.length ≤ 3000 := by rw [← hla, flat_len]; exact htx.2
  have hlnb : LB.length ≤ 3000 := by rw [← hlb, flat_len]; exact hty.2
  have HBA := Lib.hid (show Byt LA by rw [← hla]; exact byt_flat HYX.out)
  have HBB := Lib.hid (show Byt LB by rw [← hlb]; exact byt_flat HYY.out)
  have HTX := Lib.hid htx.2
  have HTY := Lib.hid hty.2
  have hx50 := htx.1
  have hy50 := hty.1
  clear hfx hfy hla hlb htx hty
  go_enter Try.func4, Try.ntmps4
  go_wp2_with fail
  refine (first_any w).mono ?_
  rintro e w1 ⟨rfl, hb1⟩
  have HB1 := Lib.hid hb1
  clear hb1
  go_wp2_with fail
  refine (few_any A xs ca w1 HLX.out (HA.out.below HB1.out) HMX.out).mono ?_
  rintro e w2 ⟨rfl, rfl⟩
  rw [HFX.out]
  go_wp2_with fail
  refine (few_any B ys cb w1 HLY.out (HB.out.below HB1.out) HMY.out).mono ?_
  rintro e w2 ⟨rfl, rfl⟩
  rw [HFY.out]
  clear HFX HFY HMX HMY HLX HLY
  go_wp2_with fail
  refine (new_has w1).mono ?_
  rintro e w2 ⟨gs, rfl, hgs, hs2, hb2⟩
  have HGS := Lib.hid (show w.heap.size ≤ gs from Nat.le_trans HB1.out.size hgs)
  have HS2 := Lib.hid hs2
  have HB2 := Lib.hid (below_then HB1.out hb2)
  clear hs2 hb2 hgs HB1
  go_wp2_with fail
  refine (new_has w2).mono ?_
  rintro e w3 ⟨gt, rfl, hgt, hs3, hb3⟩
  have HST := Lib.hid (show gs < gt from Nat.lt_of_lt_of_le HS2.out.here hgt)
  have HT3 := Lib.hid hs3
  have HS3 := Lib.hid (HS2.out.below hb3)
  have HB3 := Lib.hid (below_then HB2.out hb3)
  clear hs3 hb3 hgt HS2 HB2
  go_wp2_with fail
  refine (HS3.out.write (d := ca) (by omega) (by simp) (by have := HTX.out; omega) byt_nil HYX.out (HA.out.far HB3.out HGS.out (fun k hk => by simp [Value.ownBlock] at hk))).mono ?_
  rintro e w4 ⟨ht4, As, cs, rfl, hs4⟩
  rw [show [] ++ xs.flatten = LA by rw [HFA.out.1]; rfl] at hs4
  have HB4 := Lib.hid (HB3.out.trans (ht4.toBelow HB3.out.size HGS.out (fun k hk => by simp [Value.ownBlock] at hk)))
  have HT4 := Lib.hid (HT3.out.apart ht4 (by have := HST.out; omega) (by simp [Value.ownBlock]) (fun k hk => by simp [Value.ownBlock] at hk))
  have HS4 := Lib.hid hs4
  have HSL := Lib.hid hs4.lefts
  have HGT3 := Lib.hid (show gt < w3.heap.size from HT3.out.here)
  have HGS3 := Lib.hid (show gs < w3.heap.size from HS3.out.here)
  have HZ4 := Lib.hid ht4.size
  clear ht4 hs4 HT3 HS3
  go_wp2
  go_loopw [7] (fun vi wr => ∃ (i : Nat) (At : Option Addr) (ct bt : Nat), i ≤ xs.length ∧ vi = .int .i64 i ∧ Hid (Has wr gt At ct bt (xs.take i).flatten) ∧ Hid (∀ q, (Value.slice At (eatF beginL (xs.take i).flatten).2.length ct).ownBlock = some q → w4.heap.size ≤ q) ∧ Hid (Has wr gs As cs w3.heap.size LA) ∧ Hid (Below w.heap.size w wr) ∧ Hid (w4.heap.size ≤ wr.heap.size)) (fun vi _ => xs.length - (intOf vi).toNat)
  case atStart => exact ⟨0, none, 0, 0, by omega, rfl, HT4, Lib.hid (fun q hq => by simp [Value.ownBlock] at hq), HS4, HB4, Lib.hid (Nat.le_refl _)⟩
  case round =>
    clear HT4 HS4 HB4
    obtain ⟨i, At, ct, bt, hi, rfl, hT, hTL, hS, hB, hZ⟩ := hrel
    by_cases hlt : i < xs.length
    · obtain ⟨b1, o1, A', c', hAe, hcw, hlc, hi1⟩ := HA.out.look hlt
      have hbl := World.block_lt_of_cell? w _ hcw
      have hc := (hB.out.cell hbl).trans hcw
      have HI := Lib.hid hi1
      have hflat := Lib.hid (take_flat xs hlt)
      have hgt := get_tot xs hlt
      have HBX := Lib.hid (HYX.out _ (get_mem xs hlt))
      have hpt := take_tot xs i
      have HPY := Lib.hid (byt_flat (fun l hl => HYX.out l (List.mem_of_mem_take hl)) : Byt (xs.take i).flatten)
      generalize xs.getD i [] = x at hc HI hflat hgt HBX hlc hcw
      generalize (xs.take i).flatten = P at hT hTL hflat hpt HPY
      have htot := HTX.out
      have hx3 : x.length ≤ 3000 := by omega
      have HP3 := Lib.hid (show P.length ≤ 3000 by omega)
      have HLC := Lib.hid hlc
      clear hi1 hcw hbl hgt hpt htot hlc
      subst hAe
      go_wp2_with fail
      have hw5 := rowsF_new (w := wr) (g := gt) (vb := (Value.slice At (eatF beginL P).2.length ct).ownBlock) (vs := [.slice A' x.length c']) (ls := [x]) rfl (one_get rfl ⟨A', c', rfl, HLC.out, intsF_old HI.out hB.out (by have := HST.out; have := HGS.out; omega) (fun q hq => by have h1 := hTL.out q hq; have := HB3.out.size; have := HZ4.out; omega)⟩) hT.out.here (fun q hq => (hT.out.lefts q hq).2)
      refine ((hT.out.below ((Below.refl _ wr).alloc (Nat.le_refl _) _)).write (d := 1) (by simp) (by have := HP3.out; omega) (by simp [tot]; omega) HPY.out (fun l hl => by simp at hl; subst hl; exact HBX.out) hw5).mono ?_
      rintro e w5 ⟨ht5, A5, c5, rfl, hs5⟩
      rw [show P ++ [x].flatten = P ++ x by simp, ← hflat.out] at hs5
      have HT5 := Lib.hid hs5
      have HTL5 := Lib.hid (fun q hq => by have h1 := (hs5.lefts q hq).1; have := hZ.out; simp at h1; omega : ∀ q, (Value.slice A5 (eatF beginL (xs.take (i + 1)).flatten).2.length c5).ownBlock = some q → w4.heap.size ≤ q)
      have HS5 := Lib.hid ((hS.out.below ((Below.refl _ wr).alloc (Nat.le_refl _) _)).apart ht5 (by have := HST.out; omega) (fun e => by have := (HSL.out _ e).1; have := HGT3.out; omega) (fun q hq => ⟨by have h1 := hTL.out q hq; have := HGS3.out; have := HZ4.out; omega, fun e => by have h1 := hTL.out q hq; have h2 := (HSL.out _ e).2; omega⟩))
      have HB5 := Lib.hid ((hB.out.alloc hB.out.size (.cells #[.slice A' x.length c'] 25)).trans (ht5.toBelow (by have := hB.out.size; simp; omega) (by have := HST.out; have := HGS.out; omega) (fun q hq => by have h1 := hTL.out q hq; have := HB3.out.size; have := HZ4.out; omega)))
      have HZ5 := Lib.hid (show w4.heap.size ≤ w5.heap.size by have := ht5.size; have := hZ.out; simp at *; omega)
      have HQL := Lib.hid (show (xs.take (i + 1)).flatten.length ≤ 3000 ∧ Byt (xs.take (i + 1)).flatten from ⟨Nat.le_trans (take_tot xs (i + 1)) HTX.out, byt_flat (fun l hl => HYX.out l (List.mem_of_mem_take hl))⟩)
      clear ht5 hs5 hw5 hT hTL hS hB hZ
      go_wp2_with fail
      refine (HT5.out.sum (by have := HQL.out.1; omega) HQL.out.2).mono ?_
      rintro e w6 ⟨A6, c6, rfl, ho6, hb6⟩
      have HT6 := Lib.hid (HT5.out.below hb6)
      have HS6 := Lib.hid (HS5.out.below hb6)
      have HB6 := Lib.hid (below_then HB5.out hb6)
      have HZ6 := Lib.hid (Nat.le_trans HZ5.out hb6.size)
      clear ho6 hb6
      go_wp2
      go_roundw
      case rel => exact ⟨i + 1, A5, c5, _, by omega, by go_num, HT6, HTL5, HS6, HB6, HZ6⟩
      case measure => (simp [intOf] <;> omega)
    · obtain rfl : i = xs.length := by omega
      rw [List.take_length, HFA.out.1] at hT hTL
      obtain ⟨wl, hwl⟩ : ∃ x, x = wr := ⟨_, rfl⟩
      subst hwl
      obtain ⟨LAB, hlab⟩ : ∃ L, LA ++ LB = L := ⟨_, rfl⟩
      have HLAB := Lib.hid (And.intro hlab trivial)
      have hlnab : LAB.length ≤ 6000 := by rw [← hlab, List.length_append]; omega
      have HBAB := Lib.hid (show Byt LAB by rw [← hlab]; exact byt_app HBA.out HBB.out)
      clear hlab
      go_wp2_with fail
      refine (hS.out.sum (by omega) HBA.out).mono ?_
      rintro e w5 ⟨Ax, cx, rfl, hx5, hb5⟩
      have HX5 := Lib.hid hx5
      have HVX := Lib.hid (World.ownsRow.lt hx5)
      have HS5 := Lib.hid (hS.out.below hb5)
      have HT5 := Lib.hid (hT.out.below hb5)
      have HTV := Lib.hid hT.out.lefts
      have HB5 := Lib.hid (below_then hB.out hb5)
      have HZ5 := Lib.hid hb5.size
      have HGTR := Lib.hid hT.out.here
      clear hx5 hb5 hS hT hTL hB
      go_wp2_with fail
      refine (HS5.out.copy (by omega)).mono ?_
      rintro e w6 ⟨Ac, cc, rfl, hc6, hb6⟩
      have HC6 := Lib.hid hc6
      have HVC := Lib.hid hc6.lefts
      have HX6 := Lib.hid (OwnB.below HX5.out hb6)
      have HS6 := Lib.hid (HS5.out.below hb6)
      have HT6 := Lib.hid (HT5.out.below hb6)
      have HB6 := Lib.hid (below_then HB5.out hb6)
      clear hc6 hb6 HX5 HS5 HT5
      go_wp2_with fail
      refine (HT6.out.sum (by omega) HBA.out).mono ?_
      rintro e w7 ⟨A7, c7, rfl, h7, hb7⟩
      have HK7 := Lib.hid hb7
      have HX7 := Lib.hid (OwnB.below HX6.out hb7)
      have H7 := Lib.hid h7
      clear h7 hb7
      go_wp2_with fail
      refine (bytes_at Ax A7 (digest LA) (digest LA) 48 48 cx c7 w7 HX7.out.ints.1 H7.out.ints.1 rfl HX7.out.ints.2 H7.out.ints.2).mono ?_
      rintro e w8 ⟨rfl, rfl⟩
      clear H7
      go_wp2_with fail
      refine (sum_at (L := LA) rfl HFA.out.1 (by omega) (by omega) HYX.out (HA.out.below (below_then HB6.out HK7.out))).mono ?_
      rintro e w8 ⟨A8, c8, rfl, h8, hb8⟩
      have HK8 := Lib.hid (below_then HK7.out hb8)
      have HX8 := Lib.hid (OwnB.below HX7.out hb8)
      have H8 := Lib.hid h8
      clear h8 hb8 HX7 HK7
      go_wp2_with fail
      refine (bytes_at Ax A8 (digest LA) (digest LA) 48 48 cx c8 w8 HX8.out.ints.1 H8.out.ints.1 rfl HX8.out.ints.2 H8.out.ints.2).mono ?_
      rintro e w9 ⟨rfl, rfl⟩
      clear H8
      go_wp2_with fail
      refine (HS6.out.below HK8.out).len.mono ?_
      rintro e w9 ⟨rfl, rfl⟩
      go_wp2_with fail
      refine (all_any A xs ca w8 (by omega) (by have := HTX.out; omega) (HA.out.below (below_then HB6.out HK8.out))).mono ?_
      rintro e w9 ⟨v9, rfl, h9, hb9⟩
      rw [HFA.out.1] at h9
      obtain ⟨A9, c9, hv9, _, _⟩ := h9.bv
      subst hv9
      have HK9 := Lib.hid (below_then HK8.out hb9)
      clear h9 hb9 HK8 HX8
      go_wp2_with fail
      refine (HT6.out.below HK9.out).len.mono ?_
      rintro e w10 ⟨rfl, rfl⟩
      go_wp2_with fail
      refine (HS6.out.below HK9.out).len.mono ?_
      rintro e w10 ⟨rfl, rfl⟩
      have HX9 := Lib.hid (OwnB.below HX6.out HK9.out)
      have HS9 := Lib.hid (HS6.out.below HK9.out)
      have HT9 := Lib.hid (HT6.out.below HK9.out)
      have HC9 := Lib.hid (HC6.out.below HK9.out)
      have HB9 := Lib.hid (below_then HB6.out HK9.out)
      clear HX6 HS6 HT6 HC6 HK9 HB6
      go_wp2_with fail
      have hzz : w.heap.size ≤ w5.heap.size := HB5.out.size
      refine (HC9.out.write (d := cb) (by omega) (by omega) (by have := HTY.out; omega) HBA.out HYY.out (HB.out.far HB9.out hzz (fun q hq => by have := (HVC.out q hq).1; omega))).mono ?_
      rintro e w10 ⟨ht10, A10, c10, rfl, hc10⟩
      rw [HFB.out.1, HLAB.out.1] at hc10
      have HC10 := Lib.hid hc10
      have HB10 := Lib.hid (HB9.out.trans (ht10.toBelow HB9.out.size hzz (fun q hq => by have := (HVC.out q hq).1; omega)))
      have HS10 := Lib.hid (HS9.out.apart ht10 (by have := HGS3.out; have := HZ4.out; have := hZ.out; have := HZ5.out; omega) (fun e => by have := (HSL.out _ e).2; have := hZ.out; have := HZ5.out; omega) (fun q hq => ⟨by have := (HVC.out q hq).1; have := HGS3.out; have := HZ4.out; have := hZ.out; have := HZ5.out; omega, fun e => by have := (HVC.out q hq).1; have := (HSL.out _ e).2; have := hZ.out; have := HZ5.out; omega⟩))
      have HT10 := Lib.hid (HT9.out.apart ht10 (by have := HGTR.out; have := HZ5.out; omega) (fun e => by have := (HTV.out _ e).2; have := HZ5.out; omega) (fun q hq => ⟨by have := (HVC.out q hq).1; have := HGTR.out; have := HZ5.out; omega, fun e => by have := (HVC.out q hq).1; have := (HTV.out _ e).2; have := HZ5.out; omega⟩))
      have HX10 := Lib.hid (own_apart HX9.out ht10 (fun e => by have := (HVX.out _ e).2; omega) (fun q hq e => by have := (HVC.out q hq).1; have := (HVX.out _ e).2; omega))
      have HCL := Lib.hid hc10.lefts
      have HZ10 := Lib.hid ht10.size
      have HC9H := Lib.hid HC9.out.here
      clear ht10 hc10 HX9 HS9 HT9 HC9 HB9
      obtain ⟨gx, hvx, hgx⟩ := HX10.out.form (by omega)
      subst hvx
      have HXR := Lib.hid (show w10.ownsRow wl.heap.size 5 1 (.slice (some ⟨gx, 0, none⟩) 48 cx) 48 (ints .u8 (digest LA)) from own_row48 HX10.out)
      have hgx2 : gx < w5.heap.size := (HVX.out gx rfl).2
      clear HX10
      go_wp2
      go_loopw [10] (fun vi wr => ∃ (i : Nat) (Z : List Int), i ≤ 48 ∧ vi = .int .i64 i ∧ Hid (wr.ownsRow wl.heap.size 5 1 (.slice (some ⟨gx, 0, none⟩) 48 cx) 48 (ints .u8 Z)) ∧ Hid (Tch gx none w10 wr)) (fun vi _ => 48 - (intOf vi).toNat)
      case atStart => exact ⟨0, _, by omega, rfl, HXR, Lib.hid (Tch.refl _ _ _)⟩
      case round =>
        clear HXR
        obtain ⟨i, Z, hi, rfl, hO, hT⟩ := hrel
        by_cases hlt3 : i < 48
        · have hc0 := own_cell hO.out i hlt3
          have hf0 := own_free hO.out i
          generalize Z.getD i 0 = z at hc0
          go_wp2
          go_roundw
          case rel =>
            refine ⟨i + 1, Z.set i (IntKind.u8.wrap (z + 1)), by omega, by go_num, Lib.hid ?_, Lib.hid (hT.out.set i _)⟩
            have h9 := own_put hO.out i hlt3 (.int .u8 (IntKind.u8.wrap (z + 1)))
            rw [ints_set] at h9
            exact h9
          case measure => (simp [intOf] <;> omega)
        · obtain rfl : i = 48 := by omega
          simp only [Int.cast_ofNat_Int]
          obtain ⟨w11, hw11⟩ : ∃ x, x = wr := ⟨_, rfl⟩
          subst hw11
          have hwl : w.heap.size ≤ wl.heap.size := by have := HB3.out.size; have := HZ4.out; have := hZ.out; omega
          have HS11 := Lib.hid (HS10.out.apart hT.out (by have := HGS3.out; have := HZ4.out; have := hZ.out; omega) (fun e => by have := (HSL.out _ e).2; have := hZ.out; omega) (fun q hq => by simp at hq))
          have HT11 := Lib.hid (HT10.out.apart hT.out (by have := HGTR.out; omega) (fun e => by have := (HTV.out _ e).2; omega) (fun q hq => by simp at hq))
          have HC11 := Lib.hid (HC10.out.apart hT.out (by omega) (fun e => by have := (HCL.out _ e).1; have := HC9H.out; omega) (fun q hq => by simp at hq))
          have HB11 := Lib.hid (HB10.out.trans (hT.out.toBelow HB10.out.size (by omega) (fun k hk => by simp at hk)))
          have HQ := Lib.hid True.intro
          clear HS10 HT10 HC10 HB10 hT hO HSL HGT3 HGS3 HZ4 hZ HTV HVX HVC HCL HZ10 HC9H HGTR HZ5 HTX HTY
          go_wp2_with (first
            | (at_builtin; clear HQ; obtain ⟨vs1, hs1, hl1, hv1⟩ := HA.out.srcAt (P := Try.prog) (HB11.out.alloc HB11.out.size (.cells #[] 25)) Try.underlying22 ca; refine wp_append_src (w0 := w11) w11.heap.size 1 24 (.tmp 99) (.tmp 100) 22 22 25 rfl rfl Try.underlying22 i1 iz0 iz1 iz2 rfl (by decide) (n := 0) (xs := []) (World.ownsRow_lit _ #[] 0 (Nat.le_refl _) (Nat.zero_le _) rfl) rfl hs1 rfl (by unfold maxLen; omega) (by omega) ((Below.refl _ w11).alloc (Nat.le_refl _) _) (by simp) (Nat.le_refl _) ?_; intro v12 w12 ho12 hb12 _ _; have HO12 := Lib.hid ho12; have HB12 := Lib.hid hb12; have HV1 := Lib.hid hv1; have HL1 := Lib.hid hl1; clear ho12 hb12 hs1 hv1 hl1)
            | (at_builtin; obtain ⟨vs2, hs2, hl2, hv2⟩ := HB.out.srcAt (P := Try.prog) (below_then HB11.out HB12.out) Try.underlying22 cb; refine wp_append_src (w0 := w11) w11.heap.size 1 24 (.tmp 101) (.tmp 102) 22 22 25 rfl rfl Try.underlying22 i1 iz0 iz1 iz2 rfl (by decide) HO12.out rfl hs2 rfl (by unfold maxLen; omega) (by omega) HB12.out HB12.out.size (Nat.le_refl _) ?_; intro v13 w13 ho13 hb13 _ _; have hol := ownL_append (ms := ys) HL1.out (fun j hj => (HV1.out j hj).below (below_then HB11.out hb13)) hl2 (fun j hj => (hv2 j hj).below (below_then HB11.out hb13)) (by simpa using ho13); obtain ⟨A13, c13, hv13, hc13, hr13⟩ := hol.rows; rw [List.length_append] at hv13; subst hv13; have HR13 := Lib.hid hr13; have HB13 := Lib.hid hb13; clear hol hr13 hb13 ho13 hs2 hv2 hl2 HO12 HB12 HV1 HL1)
            | fail)
          have HS13 := Lib.hid (HS11.out.below HB13.out)
          have HT13 := Lib.hid (HT11.out.below HB13.out)
          have HC13 := Lib.hid (HC11.out.below HB13.out)
          have HBB13 := Lib.hid (below_then HB11.out HB13.out)
          have HYXY := Lib.hid (show ∀ l ∈ xs ++ ys, Byt l from fun l hl => by rcases List.mem_append.1 hl with h | h; exact HYX.out l h; exact HYY.out l h)
          have HFXY := Lib.hid (And.intro (show (xs ++ ys).flatten = LAB by rw [List.flatten_append, HFA.out.1, HFB.out.1, HLAB.out.1]) trivial)
          clear HS11 HT11 HC11 HB11 HB13
          refine (first_any w13).mono ?_
          rintro e w14 ⟨rfl, hb14⟩
          have HK14 := Lib.hid hb14
          clear hb14
          go_wp2_with fail
          refine ((HC13.out.below HK14.out).sum (by omega) HBAB.out).mono ?_
          rintro e w15 ⟨A15, c15, rfl, h15, hb15⟩
          have HK15 := Lib.hid (below_then HK14.out hb15)
          have H15 := Lib.hid h15
          clear h15 hb15 HK14
          go_wp2_with fail
          refine (sum_at (L := LAB) (ls := xs ++ ys) List.length_append HFXY.out.1 (by omega) (by omega) HYXY.out (HR13.out.below HK15.out)).mono ?_
          rintro e w16 ⟨A16, c16, rfl, h16, hb16⟩
          have HK16 := Lib.hid (below_then HK15.out hb16)
          have H15' := Lib.hid (OwnB.below H15.out hb16)
          have H16 := Lib.hid h16
          clear h16 hb16 H15 HK15
          go_wp2_with fail
          refine (bytes_at A15 A16 (digest LAB) (digest LAB) 48 48 c15 c16 w16 H15'.out.ints.1 H16.out.ints.1 rfl H15'.out.ints.2 H16.out.ints.2).mono ?_
          rintro e w17 ⟨rfl, rfl⟩
          clear H15' H16
          go_wp2_with fail
          refine ((HS13.out.below HK16.out).sum (by omega) HBA.out).mono ?_
          rintro e w17 ⟨A17, c17, rfl, h17, hb17⟩
          have HK17 := Lib.hid (below_then HK16.out hb17)
          have H17 := Lib.hid h17
          clear h17 hb17 HK16
          go_wp2_with fail
          refine ((HT13.out.below HK17.out).sum (by omega) HBA.out).mono ?_
          rintro e w18 ⟨A18, c18, rfl, h18, hb18⟩
          have HK18 := Lib.hid (below_then HK17.out hb18)
          have H17' := Lib.hid (OwnB.below H17.out hb18)
          have H18 := Lib.hid h18
          clear h18 hb18 H17 HK17
          go_wp2_with fail
          refine (bytes_at A17 A18 (digest LA) (digest LA) 48 48 c17 c18 w18 H17'.out.ints.1 H18.out.ints.1 rfl H17'.out.ints.2 H18.out.ints.2).mono ?_
          rintro e w19 ⟨rfl, rfl⟩
          clear H17' H18
          go_wp2_with fail
          refine (HC13.out.below HK18.out).len.mono ?_
          rintro e w19 ⟨rfl, rfl⟩
          go_wp2_with fail
          refine (all_at (L := LAB) (ls := xs ++ ys) List.length_append HFXY.out.1 (by omega) (by omega) (HR13.out.below HK18.out)).mono ?_
          rintro e w20 ⟨A20, c20, rfl, hb20⟩
          have HK20 := Lib.hid (below_then HK18.out hb20)
          clear hb20 HK18
          go_wp2_with fail
          refine ((HS13.out.below HK20.out).sum (by omega) HBA.out).mono ?_
          rintro e w21 ⟨A21, c21, rfl, h21, hb21⟩
          have HK21 := Lib.hid (below_then HK20.out hb21)
          clear h21 hb21
          go_wp2
          go_ret
          exact ⟨rfl, below_then HBB13.out HK21.out⟩
end Go.Proofs.Ytkodmicocjklcaa
