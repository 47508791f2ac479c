/- rhzlaw7.FrameJoins: the walk: whatever came in, the call answers true and writes nothing that was there. -/
import Derived.Test.YtkcffggjggedjaaFrReads
namespace Go.Proofs.Ytkcffggjggedjaa
open Go.RowKit

section
variable {P : Program} {ops : Array Oper} {rest : List Oper} {o : Oper} {a : Act} {Q : Exit → Act → World → Prop}
/-- append, met in a walk behind a guard that holds. -/
theorem wp_append_src_g {w0 W : World} (base size bytes : Nat) (s x : Operand) (t tx e : TypeId) (hgd : Region.wanted o (yielded ops a.tmps) = true) (ho : o.op = .call { callee := .builtin .append, args := #[s, x], argTypes := #[t, tx] })
    (ht : P.underlying t = some (.slice e)) {i : TypeInfo} {z : Value} (hi : P.info? e = some i) (hz : i.zero = some z) (hsize : i.size = size) (hby : i.bytes = bytes) (hzs : z.cells.size = size) (hsz : 0 < size)
    {v : Value} {n : Nat} {xs : List Value} (HO : W.ownsRow base e size v n xs) (hs : a.eval s = v) {xv : Value} {m : Nat} {news : List Value} (hsrc : Src P size tx xv m news W) (hx : a.eval x = xv)
    (h63 : n + m ≤ maxLen) (hbytes : (n + m) * bytes ≤ 140737488355328) (HB : Below w0.heap.size w0 W) (hbase : base ≤ W.heap.size) (hw0 : w0.heap.size ≤ base)
    (h : ∀ v1 w1, w1.ownsRow base e size v1 (n + m) (xs ++ news) → Below w0.heap.size w0 w1 → W.grownBy w1 v.ownBlock → (v1.ownBlock = v.ownBlock ∨ v1.ownBlock = some W.heap.size) → wpList P ops Q rest (a.put o.dst v1) w1) :
    wpList P ops Q (o :: rest) a W := by
  obtain ⟨v1, w1, hr, h1, h2, h3⟩ := run_append_own_src W base t tx o.type e i z size bytes ht hi hz hsize hby hzs hsz v n xs HO xv m news hsrc h63 hbytes hbase
  refine wpList_step fun K hK => ?_
  rw [if_pos hgd]
  unfold Oper.wp execOp
  simp only [ho, resolve, invoke, builtin, Sem.run_bind, Sem.run_pure, Result.andThen_ok, List.map_toArray, List.map_cons, List.map_nil, hs, hx, hr]
  exact hK _ _ (h v1 w1 h1 (HB.grown h2 HB.size fun k hk => Nat.le_trans hw0 (own_base HO k hk)) h2 h3)
end

theorem Rows.srcAt {P : Program} {w W : World} {A : Option Addr} {ls : List (List Int)} (h : Rows w A ls) (hW : Below w.heap.size w W) {tx e' : TypeId} (hk : P.underlying tx = some (.slice e')) (c : Nat) :
    ∃ vs : List Value, Src P 1 tx (.slice A ls.length c) ls.length vs W ∧ vs.length = ls.length ∧ ∀ j, j < ls.length → BV w (vs.getD j (.bool false)) (ls.getD j []) := by
  by_cases hn : ls = []
  · subst hn
    refine ⟨[], ?_, rfl, fun j hj => by simp at hj⟩
    rcases A with _ | a
    · exact Src.ofNil W hk c
    · exact Src.ofSlice W hk a 0 c [] rfl (fun j u hu => by simp at hu) (fun u hu => by simp at hu)
  · obtain ⟨b, off, rfl, hc⟩ := h hn
    obtain ⟨V, hV⟩ := Go.Deep.choose_lt (n := ls.length) (p := fun j v => w.cell? ⟨b, off + j, none⟩ = some v ∧ BV w v (ls.getD j [])) hc
    have hg : ∀ j, j < ls.length → (((List.range ls.length).map V).getD j (.bool false)) = V j := fun j hj => by simp [List.getD_eq_getElem?_getD, hj]
    refine ⟨(List.range ls.length).map V, Src.ofSlice W hk ⟨b, off, none⟩ ls.length c _ (by simp) (fun j u hu => ?_) (fun u hu => ?_), by simp, fun j hj => by rw [hg j hj]; exact (hV j hj).2⟩
    · have hj : j < ls.length := by
        rcases Nat.lt_or_ge j ls.length with h | h
        · exact h
        · simp [h] at hu
      rw [Addr.add_lit, (hW.cell (World.block_lt_of_cell? w _ (hV j hj).1)).trans (hV j hj).1]
      simp [hj] at hu
      rw [hu]
    · simp only [List.mem_map, List.mem_range] at hu
      obtain ⟨j, hj, rfl⟩ := hu
      obtain ⟨_, A', c', h2, _⟩ := hV j hj
      rw [h2]; rfl
/-- A row of slices that is appended to. -/
theorem ownL_append {w1 : World} {b : Nat} {v1 : Value} {ls ms : List (List Int)} {vs news : List Value} (hl : vs.length = ls.length) (hb : ∀ j, j < ls.length → BV w1 (vs.getD j (.bool false)) (ls.getD j []))
    (hn : news.length = ms.length) (hm : ∀ j, j < ms.length → BV w1 (news.getD j (.bool false)) (ms.getD j [])) (hr : w1.ownsRow b 23 1 v1 (ls.length + ms.length) (vs ++ news)) : OwnL w1 b v1 (ls ++ ms) := by
  refine ⟨vs ++ news, by simp [hl, hn], by simpa using hr, fun j hj => ?_⟩
  by_cases hlt : j < ls.length
  · have e1 : (vs ++ news).getD j (.bool false) = vs.getD j (.bool false) := by simp [List.getD_eq_getElem?_getD, List.getElem?_append, show j < vs.length by omega]
    have e2 : (ls ++ ms).getD j [] = ls.getD j [] := by simp [List.getD_eq_getElem?_getD, List.getElem?_append, hlt]
    rw [e1, e2]; exact hb j hlt
  · have hj' : j - ls.length < ms.length := by simp at hj; omega
    have e1 : (vs ++ news).getD j (.bool false) = news.getD (j - ls.length) (.bool false) := by simp [List.getD_eq_getElem?_getD, List.getElem?_append, hl, if_neg hlt]
    have e2 : (ls ++ ms).getD j [] = ms.getD (j - ls.length) [] := by simp [List.getD_eq_getElem?_getD, List.getElem?_append, hlt]
    rw [e1, e2]; exact hm _ hj'

theorem byt_append {a b : List Int} (ha : Byt a) (hb : Byt b) : Byt (a ++ b) := fun x hx => by
  rcases List.mem_append.1 hx with h | h
  · exact ha x h
  · exact hb x h
theorem byt_frames : ∀ (ls : List (List Int)), short ls → (∀ l ∈ ls, Byt l) → Byt (framesL ls)
  | [], _, _ => byt_nil
  | b :: r, hs, hb => by
    have h1 := hs b (by simp)
    rw [framesL]
    exact byt_append (byt_append (byt_cons (by omega) (by omega) (byt_cons (by omega) (by omega) byt_nil)) (hb b (by simp))) (byt_frames r (fun l hl => hs l (by simp [hl])) (fun l hl => hb l (by simp [hl])))
theorem short_append {a b : List (List Int)} : short (a ++ b) ↔ short a ∧ short b := by
  unfold short
  constructor
  · exact fun h => ⟨fun l hl => h l (by simp [hl]), fun l hl => h l (by simp [hl])⟩
  · rintro ⟨h1, h2⟩ l hl
    rcases List.mem_append.1 hl with h | h
    · exact h1 l h
    · exact h2 l h
theorem strOfNums_append (a b : List Int) : strOfNums (a ++ b) = strOfNums a ++ strOfNums b := by
  apply ByteArray.ext
  simp [strOfNums]
theorem framesF_err (ls : List (List Int)) : (framesF [] ls = (framesL ls, 0) ∧ short ls) ∨ (framesF [] ls = ([], 3) ∧ ¬ short ls) := by
  by_cases h : short ls
  · exact .inl ⟨by simpa using framesF_short ls [] h, h⟩
  · exact .inr ⟨framesF_long ls [] h, h⟩

set_option maxHeartbeats 2000000 in
theorem joins_walk (A B : Option Addr) (xs ys : List (List Int)) (ca cb : Nat) (w : World) (hlx : xs.length ≤ maxLen) (hmx : ∀ l ∈ xs, l.length ≤ maxLen) (hly : ys.length ≤ maxLen) (hmy : ∀ l ∈ ys, l.length ≤ maxLen) (hbx : ∀ l ∈ xs, Byt l) (hby : ∀ l ∈ ys, Byt l) (hA : Rows w A xs) (hB : Rows w B ys) :
    Calls Try.prog 4 #[.slice A xs.length ca, .slice B ys.length cb] w fun e w' => e = .returned (.bool true) ∧ Below w.heap.size w w' := by
  have hB0 := Below.refl w.heap.size w
  have HA := Lib.hid hA
  have HB := Lib.hid hB
  have HMX := Lib.hid hmx
  have HMY := Lib.hid hmy
  have HLX := Lib.hid hlx
  have HLY := Lib.hid hly
  have HBX := Lib.hid hbx
  have HBY := Lib.hid hby
  clear hA hB hmx hmy hlx hly hbx hby
  have hfx : fewF xs = true → xs.length ≤ 100 := few_len
  have hfy : fewF ys = true → ys.length ≤ 100 := few_len
  generalize hfewx : fewF xs = b at hfx
  generalize hfewy : fewF ys = d at hfy
  have HFX := Lib.hid hfewx
  have HFY := Lib.hid hfewy
  clear hfewx hfewy
  by_cases hbd : b = true ∧ d = true
  · obtain ⟨rfl, rfl⟩ := hbd
    have hx100 := hfx rfl
    have hy100 := hfy rfl
    clear hfx hfy
    obtain ⟨i0, hi, hz0, hz1, hz2⟩ := info_parts (show (Try.prog.info? 23).map (fun i => (i.zero, i.size, i.bytes)) = some (some (.slice none 0 0), 1, 24) by kernel_rfl)
    have hrx := framesF_err xs
    have hry := framesF_err ys
    have hrz := framesF_err (xs ++ ys)
    rw [short_append] at hrz
    by_cases hs : short xs ∧ short ys
    · obtain ⟨hs1, hs2⟩ := hs
      have hx := hrx.resolve_right (fun h => h.2 hs1)
      have hy := hry.resolve_right (fun h => h.2 hs2)
      have hz := hrz.resolve_right (fun h => h.2 ⟨hs1, hs2⟩)
      have hl1 := framesL_len xs hs1
      have hl2 := framesL_len ys hs2
      have hbz := byt_append (byt_frames xs hs1 HBX.out) (byt_frames ys hs2 HBY.out)
      have htk := takeR_frames (xs ++ ys)
      rw [framesL_append, List.length_append] at htk
      rw [framesL_append] at hz
      generalize framesL xs = X at hx hz hl1 hbz htk
      generalize framesL ys = Y at hy hz hl2 hbz htk
      have hX : (X.length : Int) ≤ 6553700 := by omega
      have hY : (Y.length : Int) ≤ 6553700 := by omega
      have HGX := Lib.hid hx.1
      have HGY := Lib.hid hy.1
      have HGZ := Lib.hid hz.1
      have HBYT := Lib.hid hbz
      have HTK := Lib.hid htk
      have HT0 := Lib.hid (show takeR [0, 0] = ([[]], 2) by rw [takeR, if_pos (by decide), show ([] : List Int).drop (256 * (0 : Int).toNat + (0 : Int).toNat) = [] by decide, takeR]; rfl)
      have HB00 := Lib.hid (show Byt [0, 0] from byt_cons (by decide) (by decide) (byt_cons (by decide) (by decide) byt_nil))
      have HSA := Lib.hid (strOfNums_append X Y)
      have hsx : ((strOfNums X).size : Int) ≤ 6553700 := by rw [strOfNums_size]; exact hX
      have hsy : ((strOfNums Y).size : Int) ≤ 6553700 := by rw [strOfNums_size]; exact hY
      clear hx hy hz hrx hry hrz hbz htk hl1 hl2 hs1 hs2
      go_enter Try.func4, Try.ntmps4
      go_wp2_with (first
          | (go_at_call 8; first | (have hstop := HR8; have c := first_any w8; refine c.mono ?_; clear c hstop; rintro e w9 ⟨rfl, hb9⟩; have HB9 := Lib.hid (below_then HB8.out hb9); have HC9 := Lib.hid (fun (W : World) (hW : Below w9.heap.size w9 W) => HC8.out W (below_then hb9 hW)); have HTAG := Lib.hid True.intro; have hcx : Sem.run Try.prog (convert 23 9 (.slice A2 X.length c2)) w9 = .ok (.string (strOfNums X)) w9 := bv_str (P := Try.prog) (c := c2) Try.underlying23 Try.underlying5 Try.underlying9 (HI2.out.below HB9.out); have hcy : Sem.run Try.prog (convert 23 9 (.slice A3 Y.length c3)) w9 = .ok (.string (strOfNums Y)) w9 := bv_str (P := Try.prog) (c := c3) Try.underlying23 Try.underlying5 Try.underlying9 (HI3.out.below HB9.out); have hcz : Sem.run Try.prog (convert 23 9 (.slice A6 (X.length + Y.length) c6)) w9 = .ok (.string (strOfNums X ++ strOfNums Y)) w9 := (by have h := bv_str (P := Try.prog) (c := c6) Try.underlying23 Try.underlying5 Try.underlying9 ((HI6.out.below HB87.out).below hb9); rwa [HSA.out, List.length_append] at h); replace HR7 := Lib.hid ((HR7.out.below HB87'.out).below hb9); clear hb9 HR8) | (refine (first_any _).mono ?_; rintro e w1 ⟨rfl, hb1⟩; replace hB0 := below_then hB0 hb1; clear hb1))
          | (go_at_call 9; (first | (refine (few_any A xs ca _ HLX.out (HA.out.below hB0) HMX.out).mono ?_; rw [HFX.out]; rintro e w1 ⟨rfl, rfl⟩; clear HLX) | (refine (few_any B ys cb _ HLY.out (HB.out.below hB0) HMY.out).mono ?_; rw [HFY.out]; rintro e w1 ⟨rfl, rfl⟩; clear HLY)))
          | (go_at_call 11; first | (have hg := HGX.out; clear HGX; refine (framePut_any A xs ca _ (by omega) (HA.out.below hB0)).mono ?_; rw [hg]; clear hg; rintro e w2 ⟨v2, rfl, ho2, hb2⟩; obtain ⟨A2, c2, hv2, hc2, hi2⟩ := ho2.bv; simp only at hv2; subst hv2; have HI2 := Lib.hid hi2; replace hB0 := below_then hB0 hb2; clear hb2 ho2 hi2) | (have hg := HGY.out; clear HGY; refine (framePut_any B ys cb _ (by omega) (HB.out.below hB0)).mono ?_; rw [hg]; clear hg; rintro e w3 ⟨v3, rfl, ho3, hb3⟩; obtain ⟨A3, c3, hv3, hc3, hi3⟩ := ho3.bv; simp only at hv3; subst hv3; have HI3 := Lib.hid hi3; replace HI2 := Lib.hid (HI2.out.below hb3); replace hB0 := below_then hB0 hb3; clear hb3 ho3 hi3) | (have c := framePut_any A5 (xs ++ ys) c5 _ (by simp; omega) HR5.out; rw [List.length_append, HGZ.out] at c; refine c.mono ?_; clear c; rintro e w6 ⟨v6, rfl, ho6, hb6⟩; obtain ⟨A6, c6, hv6, hc6, hi6⟩ := ho6.bv; simp only at hv6; subst hv6; have HI6 := Lib.hid hi6; have HB6 := Lib.hid (below_then HB5.out hb6); clear hb6 ho6 hi6))
          | (at_builtin; (have hstop := HTAG); obtain ⟨vs1, hs1, hl1, hv1⟩ := HA.out.srcAt (P := Try.prog) ((below_then hB0 HB9.out).alloc (below_then hB0 HB9.out).size (.cells #[] 23)) Try.underlying22 ca; go_must (refine wp_append_src_g (w0 := w9) w9.heap.size 1 24 (.tmp 89) (.tmp 90) 22 22 23 (by go_simp) rfl Try.underlying22 hi hz0 hz1 hz2 rfl (by decide) (n := 0) (xs := []) (World.ownsRow_lit _ #[] 0 (Nat.le_refl _) (Nat.zero_le _) rfl) rfl hs1 rfl (by unfold maxLen; omega) (by omega) ((Below.refl _ w9).alloc (Nat.le_refl _) _) (by simp) (Nat.le_refl _) ?_); intro v10 w10 ho10 hb10 _ _; have HO10 := Lib.hid ho10; have HB10 := Lib.hid hb10; have HV10 := Lib.hid hv1; have HL10 := Lib.hid hl1; clear ho10 hb10 hs1 hv1 hl1 HTAG hstop)
          | (at_builtin; obtain ⟨vs2, hs2, hl2, hv2⟩ := HB.out.srcAt (P := Try.prog) (below_then (below_then hB0 HB9.out) HB10.out) Try.underlying22 cb; refine wp_append_src_g (w0 := w9) w9.heap.size 1 24 (.tmp 91) (.tmp 92) 22 22 23 (by go_simp) rfl Try.underlying22 hi hz0 hz1 hz2 rfl (by decide) HO10.out rfl hs2 rfl (by unfold maxLen; omega) (by omega) HB10.out HB10.out.size (Nat.le_refl _) ?_; intro v11 w11 ho11 hb11 _ _; have hol := ownL_append (ms := ys) HL10.out (fun j hj => (HV10.out j hj).below (below_then (below_then hB0 HB9.out) hb11)) hl2 (fun j hj => (hv2 j hj).below (below_then (below_then hB0 HB9.out) hb11)) (by simpa using ho11); obtain ⟨A11, c11, hv11, hc11, hr11⟩ := hol.rows; subst hv11; have HR11 := Lib.hid hr11; have HB11 := Lib.hid hb11; clear hol hr11 hb11 ho11 hs2 hv2 hl2)
          | (go_at_call 15; have c := lists_same A7 A11 (xs ++ ys) c7 c11 w11 (by simp; omega) (HR7.out.below HB11.out) HR11.out; rw [List.length_append] at c; refine c.mono ?_; clear c; rintro e w12 ⟨rfl, hb12⟩; have hc12 := HC9.out w12 (below_then HB11.out hb12); have hB12 := below_then (below_then (below_then hB0 HB9.out) HB11.out) hb12; clear hb12)
          | (at_builtin; obtain ⟨vs1, hs1, hl1, hv1⟩ := HA.out.srcAt (P := Try.prog) (hB0.alloc hB0.size (.cells #[] 23)) Try.underlying22 ca; refine wp_append_src (w0 := w3) w3.heap.size 1 24 (.tmp 37) (.tmp 38) 22 22 23 rfl rfl Try.underlying22 hi hz0 hz1 hz2 rfl (by decide) (n := 0) (xs := []) (World.ownsRow_lit _ #[] 0 (Nat.le_refl _) (Nat.zero_le _) rfl) rfl hs1 rfl (by unfold maxLen; omega) (by omega) ((Below.refl _ w3).alloc (Nat.le_refl _) _) (by simp) (Nat.le_refl _) ?_; intro v4 w4 ho4 hb4 _ _; have HO4 := Lib.hid ho4; have HB4 := Lib.hid hb4; have HV1 := Lib.hid hv1; have HL1 := Lib.hid hl1; clear ho4 hb4 hs1 hv1 hl1)
          | (at_builtin; obtain ⟨vs2, hs2, hl2, hv2⟩ := HB.out.srcAt (P := Try.prog) (below_then hB0 HB4.out) Try.underlying22 cb; refine wp_append_src (w0 := w3) w3.heap.size 1 24 (.tmp 39) (.tmp 40) 22 22 23 rfl rfl Try.underlying22 hi hz0 hz1 hz2 rfl (by decide) HO4.out rfl hs2 rfl (by unfold maxLen; omega) (by omega) HB4.out HB4.out.size (Nat.le_refl _) ?_; intro v5 w5 ho5 hb5 _ _; have hol := ownL_append (ms := ys) HL1.out (fun j hj => (HV1.out j hj).below (below_then hB0 hb5)) hl2 (fun j hj => (hv2 j hj).below (below_then hB0 hb5)) (by simpa using ho5); obtain ⟨A5, c5, hv5, hc5, hr5⟩ := hol.rows; subst hv5; have HR5 := Lib.hid hr5; have HB5 := Lib.hid hb5; clear hol hr5 hb5 ho5 hs2 hv2 hl2)
          | (go_at_call 13; first | (have hg := HTK.out; clear HTK; have c := take_any A6 (X ++ Y) c6 _ (by simp; omega) hc6 HBYT.out HI6.out; rw [List.length_append, hg] at c; refine c.mono ?_; clear c hg; rintro e w7 ⟨v7, rfl, ho7, hb7⟩; obtain ⟨A7, c7, hv7, hc7, hr7⟩ := ho7.own.rows; subst hv7; have HR7 := Lib.hid hr7; have HB7 := Lib.hid (below_then HB6.out hb7); replace HI6 := Lib.hid (HI6.out.below hb7); clear hb7 ho7 hr7) | (have c := take_any (some ⟨w7.heap.size, 0, none⟩) [0, 0] 2 (w7.alloc (.cells #[.int .u8 0, .int .u8 0] 5)) (by decide) (by decide) HB00.out (lits_lit w7 .u8 5 0 0); rw [HT0.out] at c; refine c.mono ?_; clear c; rintro e w8 ⟨v8, rfl, ho8, hb8⟩; obtain ⟨A8, c8, hv8, hc8, hr8⟩ := ho8.own.rows; subst hv8; have HB87 := Lib.hid (below_then ((Below.refl w7.heap.size w7).alloc (Nat.le_refl _) _) hb8); have HB87' := HB87; have HB8 := Lib.hid (below_then HB7.out HB87.out); have HR8 := Lib.hid hr8; obtain ⟨b8, o8, A8', c8', rfl, hc8, _, _⟩ := hr8.look (j := 0) (by simp); have hc8x : w8.cell? ⟨b8, o8, none⟩ = some (.slice A8' 0 c8') := (by simpa using hc8); have HC8 := Lib.hid (fun (W : World) (hW : Below w8.heap.size w8 W) => (hW.cell (World.block_lt_of_cell? w8 _ hc8x)).trans hc8x); clear hc8 hc8x hr8 ho8 hb8)))
      go_ret
      exact ⟨rfl, hB12⟩
    · have hz := hrz.resolve_left (fun h => hs h.2)
      have HZ := Lib.hid hz.1
      clear hrz hz
      generalize hgx : framesF [] xs = RX at hrx
      generalize hgy : framesF [] ys = RY at hry
      have HGX := Lib.hid hgx
      have HGY := Lib.hid hgy
      have he : (RX.2 = 3) ∨ (RX.2 = 0 ∧ RY.2 = 3) := by
        rcases hrx with ⟨h1, h2⟩ | ⟨h1, h2⟩
        · rcases hry with ⟨h3, h4⟩ | ⟨h3, h4⟩
          · exact absurd ⟨h2, h4⟩ hs
          · right; rw [h1, h3]; exact ⟨rfl, rfl⟩
        · left; rw [h1]
      obtain ⟨rx, ex⟩ := RX
      obtain ⟨ry, ey⟩ := RY
      clear hgx hgy hrx hry hs
      simp only at he
      rcases he with rfl | ⟨rfl, rfl⟩
      all_goals
        go_enter Try.func4, Try.ntmps4
        go_wp2_with (first
          | (go_at_call 8; refine (first_any _).mono ?_; rintro e w1 ⟨rfl, hb1⟩; replace hB0 := below_then hB0 hb1; clear hb1)
          | (go_at_call 9; (first | (refine (few_any A xs ca _ HLX.out (HA.out.below hB0) HMX.out).mono ?_; rw [HFX.out]; rintro e w1 ⟨rfl, rfl⟩; clear HLX) | (refine (few_any B ys cb _ HLY.out (HB.out.below hB0) HMY.out).mono ?_; rw [HFY.out]; rintro e w1 ⟨rfl, rfl⟩; clear HLY)))
          | (go_at_call 11; first | (have hg := HGX.out; clear HGX; refine (framePut_any A xs ca _ (by omega) (HA.out.below hB0)).mono ?_; rw [hg]; clear hg; rintro e w2 ⟨v2, rfl, ho2, hb2⟩; replace hB0 := below_then hB0 hb2; clear hb2 ho2) | (have hg := HGY.out; clear HGY; refine (framePut_any B ys cb _ (by omega) (HB.out.below hB0)).mono ?_; rw [hg]; clear hg; rintro e w3 ⟨v3, rfl, ho3, hb3⟩; replace hB0 := below_then hB0 hb3; clear hb3 ho3) | (have c := framePut_any A5 (xs ++ ys) c5 _ (by simp; omega) HR5.out; rw [List.length_append, HZ.out] at c; refine c.mono ?_; clear c; rintro e w6 ⟨v6, rfl, ho6, hb6⟩; replace hB0 := below_then HB5.out hb6; clear hb6 ho6))
          | (at_builtin; obtain ⟨vs1, hs1, hl1, hv1⟩ := HA.out.srcAt (P := Try.prog) (hB0.alloc hB0.size (.cells #[] 23)) Try.underlying22 ca; refine wp_append_src (w0 := w) w.heap.size 1 24 (.tmp 37) (.tmp 38) 22 22 23 rfl rfl Try.underlying22 hi hz0 hz1 hz2 rfl (by decide) (n := 0) (xs := []) (World.ownsRow_lit _ #[] 0 hB0.size (Nat.zero_le _) rfl) rfl hs1 rfl (by unfold maxLen; omega) (by omega) (hB0.alloc hB0.size _) (by have := hB0.size; simp; omega) (Nat.le_refl _) ?_; intro v4 w4 ho4 hb4 _ _; have HO4 := Lib.hid ho4; have HB4 := Lib.hid hb4; have HV1 := Lib.hid hv1; have HL1 := Lib.hid hl1; clear ho4 hb4 hs1 hv1 hl1)
          | (at_builtin; obtain ⟨vs2, hs2, hl2, hv2⟩ := HB.out.srcAt (P := Try.prog) HB4.out Try.underlying22 cb; refine wp_append_src (w0 := w) w.heap.size 1 24 (.tmp 39) (.tmp 40) 22 22 23 rfl rfl Try.underlying22 hi hz0 hz1 hz2 rfl (by decide) HO4.out rfl hs2 rfl (by unfold maxLen; omega) (by omega) HB4.out HB4.out.size (Nat.le_refl _) ?_; intro v5 w5 ho5 hb5 _ _; have hol := ownL_append (ms := ys) HL1.out (fun j hj => (HV1.out j hj).below hb5) hl2 (fun j hj => (hv2 j hj).below hb5) (by simpa using ho5); obtain ⟨A5, c5, hv5, hc5, hr5⟩ := hol.rows; subst hv5; have HR5 := Lib.hid hr5; have HB5 := Lib.hid hb5; clear hol hr5 hb5 ho5 hs2 hv2 hl2))
        go_ret
        exact ⟨rfl, hB0⟩
  · have hbd' : b = false ∨ (b = true ∧ d = false) := by
      cases b <;> cases d <;> simp_all
    clear hfx hfy hbd
    rcases hbd' with rfl | ⟨rfl, rfl⟩
    all_goals
      go_enter Try.func4, Try.ntmps4
      go_wp2_with (first
        | (go_at_call 8; refine (first_any _).mono ?_; rintro e w1 ⟨rfl, hb1⟩; replace hB0 := below_then hB0 hb1; clear hb1)
        | (go_at_call 9; (first | (refine (few_any A xs ca _ HLX.out (HA.out.below hB0) HMX.out).mono ?_; rw [HFX.out]; rintro e w1 ⟨rfl, rfl⟩; clear HLX) | (refine (few_any B ys cb _ HLY.out (HB.out.below hB0) HMY.out).mono ?_; rw [HFY.out]; rintro e w1 ⟨rfl, rfl⟩; clear HLY))))
      go_ret
      exact ⟨rfl, hB0⟩
end Go.Proofs.Ytkcffggjggedjaa
