/- rhzlaw7.FramePieces: the walk: whatever came in, the call answers true and writes nothing that was there. -/
import Derived.Test.YtkcffggjggedjaaFrPieceL
import Derived.Deep.Cut
import Derived.Deep.CutRange
namespace Go.Proofs.Ytkcffggjggedjaa
open Go.RowKit

/-- What is taken of the first bytes, where it ends, what is left. -/
def pl (X : List Int) (a : Nat) : List (List Int) := (takeR (X.take a)).1
def pn (X : List Int) (a : Nat) : Nat := (takeR (X.take a)).2
def pr (X : List Int) (a : Nat) : List Int := (X.take a).drop (pn X a)
def py (X : List Int) (a d : Nat) : List Int := (X.drop a).take (d - a)
theorem pr_len (X : List Int) {a : Nat} (ha : a ≤ X.length) : (pr X a).length = a - pn X a ∧ pn X a ≤ a := by
  have h := (takeR_le _ (X.take a) (Nat.le_refl _)).1
  rw [List.length_take, Nat.min_eq_left ha] at h
  exact ⟨by rw [pr, List.length_drop, List.length_take, Nat.min_eq_left ha], h⟩
theorem py_len (X : List Int) {a d : Nat} (h : a ≤ d) (hd : d ≤ X.length) : (py X a d).length = d - a := by
  rw [py, List.length_take, List.length_drop]; omega
theorem pieces (X : List Int) {a d : Nat} (h : a ≤ d) : pl X d = pl X a ++ (takeR (pr X a ++ [py X a d].flatten)).1 ∧ (pr X a ++ [py X a d].flatten).drop (takeR (pr X a ++ [py X a d].flatten)).2 = pr X d := by
  have e : X.take d = X.take a ++ py X a d := by
    have h2 := List.take_add (l := X) (i := a) (j := d - a)
    rw [show a + (d - a) = d by omega] at h2
    exact h2
  have hm := takeR_more _ (X.take a) (py X a d) (Nat.le_refl _)
  have hl := (takeR_le _ (X.take a) (Nat.le_refl _)).1
  have e2 : [py X a d].flatten = py X a d := by simp
  rw [e2]
  refine ⟨by rw [pl, e, hm]; rfl, ?_⟩
  show List.drop (takeR ((X.take a).drop (takeR (X.take a)).2 ++ py X a d)).2 ((X.take a).drop (takeR (X.take a)).2 ++ py X a d) = _
  rw [pr, pn, e, hm]
  show _ = List.drop ((takeR (X.take a)).2 + _) _
  rw [← List.drop_drop, List.drop_append_of_le_length hl]

/-- What stands at a round's head. -/
structure Pc (w : World) (g : Nat) (X : List Int) (vb : Value) (a : Nat) (vg vr : Value) (mid : Nat) (wr : World) : Prop where
  ra : RdA wr g (X.length : Nat) (a : Nat) vr false
  oa : OwnB wr w.heap.size vr (pr X a)
  og : OwnM wr (g + 1) mid vg (pl X a)
  ob : OwnB wr w.heap.size vb X
  hb : ∀ k, vb.ownBlock = some k → k < g
  hv : ∀ k, vr.ownBlock = some k → mid ≤ k
  gm : g < mid
  bel : Below w.heap.size w wr
variable {w : World} {g : Nat} {X : List Int} {vb : Value} {a : Nat} {vg vr : Value} {mid : Nat} {wr : World}
theorem Pc.below {w1 : World} (p : Pc w g X vb a vg vr mid wr) (k : Below wr.heap.size wr w1) : Pc w g X vb a vg vr mid w1 :=
  ⟨blk_below p.ra k, own_below p.oa k, p.og.below k, own_below p.ob k, p.hb, p.hv, p.gm, below_then p.bel k⟩
theorem Pc.far (p : Pc w g X vb a vg vr mid wr) : vb.ownBlock = none ∨ vb.ownBlock ≠ vr.ownBlock := by
  by_cases hn : vb.ownBlock = none
  · exact .inl hn
  · refine .inr (fun e => ?_)
    obtain ⟨k, hk⟩ := Option.ne_none_iff_exists'.1 hn
    have h1 := p.hb k hk
    have h2 := p.hv k (by rw [← e, hk])
    have h3 := p.gm
    omega
theorem Pc.glt (p : Pc w g X vb a vg vr mid wr) : g < wr.heap.size := (Array.getElem?_eq_some_iff.1 p.ra).1
/-- The bytes stay while the reader is fed. -/
theorem Pc.bytes (p : Pc w g X vb a vg vr mid wr) {w1 : World} (k : Tch g vr.ownBlock wr w1) : OwnB w1 w.heap.size vb X :=
  k.grownBut p.ob (own_ne p.ob p.ra (by decide)) p.far
/-- A piece, laid into a list of its own, stays while the reader is fed. -/
theorem Pc.laid (p : Pc w g X vb a vg vr mid wr) {A' : Option Addr} {n c' : Nat} {y : List Int} (hn : y.length = n) (hc : n ≤ c') (hy : ∀ W, OwnB W w.heap.size vb X → Ints .u8 W A' y) (wq : World)
    (ht : Tch g vr.ownBlock (wr.alloc (.cells #[.slice A' n c'] 23)) wq) : Rows wq (some ⟨wr.heap.size, 0, none⟩) [y] := by
  subst hn
  have hal : Below wr.heap.size wr (wr.alloc (.cells #[.slice A' y.length c'] 23)) := (Below.refl _ _).alloc (Nat.le_refl _) _
  have h1 : (wr.alloc (.cells #[.slice A' y.length c'] 23)).heap[wr.heap.size]? = some (.cells #[.slice A' y.length c'] 23) := heap_alloc_new wr _
  have h2 := ht.block wr.heap.size (by simp) (by have := p.glt; omega) (fun e => by have := (World.ownsRow.lt p.oa _ e.symm).2; omega)
  exact rows_one (h2.trans h1) ⟨A', c', rfl, hc, hy wq ((p.below hal).bytes ht)⟩
/-- Behind a round's feeding call and its append. -/
theorem Pc.fed (p : Pc w g X vb a vg vr mid wr) (hwg : w.heap.size ≤ g) {d : Nat} {w3 : World} (k : Tch g vr.ownBlock wr w3) {vo u : Value} {mid' : Nat} {o : List (List Int)} (ra : RdA w3 g (X.length : Nat) (d : Nat) u false) (hm : wr.heap.size ≤ mid')
    (oa : OwnB w3 mid' u (pr X d)) (om : OwnM w3 wr.heap.size mid' vo o) : RdA w3 g (X.length : Nat) (d : Nat) u false ∧ OwnB w3 w.heap.size u (pr X d) ∧ OwnM w3 (g + 1) mid' vg (pl X a) ∧ OwnM w3 (g + 1) mid' vo o ∧ OwnB w3 w.heap.size vb X ∧ (∀ n, u.ownBlock = some n → mid' ≤ n) ∧ g < mid' ∧ Below w.heap.size w w3 := by
  have hs := p.bel.size
  have hg := p.glt
  refine ⟨ra, World.ownsRow.mono oa (by omega), ?_, om.more (by omega) (Nat.le_refl _), p.bytes k, fun n hn => (World.ownsRow.lt oa n hn).1, by omega, p.bel.trans (k.toBelow hs hwg (fun n hn => (World.ownsRow.lt p.oa n hn).1))⟩
  have h1 : OwnM wr (g + 1) (min mid wr.heap.size) vg (pl X a) := by
    obtain ⟨vs, e1, e2, e3⟩ := p.og
    exact ⟨vs, e1, e2, fun j hj => ⟨(e3 j hj).1, fun n hn => by
      have i1 := (e3 j hj).2 n hn
      have i2 := (World.ownsRow.lt (e3 j hj).1 n hn).2
      omega⟩⟩
  exact (OwnM.beside k p.oa h1 (by omega) (fun n hn => by have := p.hv n hn; omega)).more (Nat.le_refl _) (by omega)
theorem Pc.next {d : Nat} {w3 w4 : World} {u v4 vo : Value} {mid' : Nat} {o : List (List Int)} {vs news : List Value} (hwg : w.heap.size ≤ g) (h : RdA w3 g (X.length : Nat) (d : Nat) u false ∧ OwnB w3 w.heap.size u (pr X d) ∧ OwnM w3 (g + 1) mid' vg (pl X a) ∧ OwnM w3 (g + 1) mid' vo o ∧ OwnB w3 w.heap.size vb X ∧ (∀ n, u.ownBlock = some n → mid' ≤ n) ∧ g < mid' ∧ Below w.heap.size w w3)
    (hvb : ∀ k, vb.ownBlock = some k → k < g) (hl : vs.length = (pl X a).length) (ho : w3.ownsRow (g + 1) 23 1 vg (pl X a).length vs) (h3 : ∀ j, j < (pl X a).length → OwnB w3 (g + 1) (vs.getD j (.bool false)) ((pl X a).getD j []) ∧ ∀ k, (vs.getD j (.bool false)).ownBlock = some k → k < mid')
    (hn : news.length = o.length) (hm : ∀ j, j < o.length → OwnB w3 (g + 1) (news.getD j (.bool false)) (o.getD j []) ∧ ∀ k, (news.getD j (.bool false)).ownBlock = some k → k < mid') (hg : w3.grownBy w4 vg.ownBlock) (hr : w4.ownsRow (g + 1) 23 1 v4 ((pl X a).length + o.length) (vs ++ news)) (e : pl X d = pl X a ++ o) :
    Pc w g X vb d v4 u mid' w4 := by
  obtain ⟨k1, k2, _, _, k5, k6, k7, k8⟩ := h
  refine ⟨blk_grown k1 hg (own_ne ho k1 (by decide)).symm, k2.kept hg (own_apart k2 ho (by decide)), ?_, k5.kept hg (own_apart k5 ho (by decide)), hvb, k6, k7, k8.grown hg k8.size (fun k hk => by have := own_base ho k hk; omega)⟩
  rw [e]
  exact OwnM.append hl ho h3 hn hm hg hr
theorem cut_bytes {Ab : Option Addr} {cb a d : Nat} {A' : Option Addr} (hA' : A' = if cb = a then Ab else Ab.map (·.add a)) (hc : X.length ≤ cb) (h1 : a ≤ d) (h2 : d ≤ X.length) (W : World) (n : Nat) (ho : OwnB W n (.slice Ab X.length cb) X) : Ints .u8 W A' (py X a d) := by
  obtain ⟨A, c, hv, _, hi⟩ := ho.bv
  simp only [Value.slice.injEq] at hv
  obtain ⟨rfl, _, rfl⟩ := hv
  obtain ⟨A2, c2, hv2, _, hi2⟩ := hi.cut hc h1 h2
  simp only [Value.slice.injEq] at hv2
  rw [hA', hv2.1]
  exact hi2
theorem run_cut0 {P : Program} (w : World) {t e : TypeId} (ht : P.underlying t = some (.slice e)) (hs : ∀ w, (sizeOf e).run P w = .ok 1 w) (A : Option Addr) (len cap hi : Nat) (h2 : hi ≤ cap) :
    (Instr.sliceAt t (.slice A len cap) none (some (.int .i64 (hi : Int))) none).run P w = .ok (.slice (if cap = 0 then A else A.map (·.add 0)) hi cap) w := by
  have he : P.elem t = e := by simp [Program.elem, ht]
  have ht' : P.underlying t = some (.slice (P.elem t)) := by rw [he]; exact ht
  rw [run_sliceAt_slice w t _ _ _ _ ht', run_slice_h w t A len cap ht' .i64 hi (by omega) (by omega), he, hs]
  simp [Result.andThen, sliced]
theorem head_bytes {Ab : Option Addr} {cb d : Nat} {A' : Option Addr} (hA' : A' = if cb = 0 then Ab else Ab.map (·.add 0)) (hc : X.length ≤ cb) (h2 : d ≤ X.length) (W : World) (n : Nat) (ho : OwnB W n (.slice Ab X.length cb) X) : Ints .u8 W A' (X.take d) := by
  have h := cut_bytes hA' hc (Nat.zero_le d) h2 W n ho
  simpa [py] using h

set_option maxRecDepth 20000 in
set_option maxHeartbeats 4000000 in
theorem pieces_walk (A C : Option Addr) (ls : List (List Int)) (cuts : List Int) (ca cc : Nat) (w : World) (hl : ls.length ≤ maxLen) (hm : ∀ l ∈ ls, l.length ≤ maxLen) (hyb : ∀ l ∈ ls, Byt l) (hcl : cuts.length ≤ maxLen) (hcb : ∀ x ∈ cuts, -9223372036854775808 ≤ x ∧ x ≤ 9223372036854775807) (hA : Rows w A ls) (hC : Ints .i64 w C cuts) :
    Calls Try.prog 6 #[.slice A ls.length ca, .slice C cuts.length cc] w fun e w' => e = .returned (.bool true) ∧ Below w.heap.size w w' := by
  have hB0 := Below.refl w.heap.size w
  have HA := Lib.hid hA
  have HC := Lib.hid hC
  have HM := Lib.hid hm
  have HL := Lib.hid hl
  have HY := Lib.hid hyb
  have HCB := Lib.hid hcb
  have hcl' : (cuts.length : Int) ≤ 9223372036854775807 := by unfold maxLen at hcl; omega
  clear hA hC hm hl hyb hcb hcl
  have hf : fewF ls = true → ls.length ≤ 100 := few_len
  generalize hfew : fewF ls = b at hf
  have HF := Lib.hid hfew
  clear hfew
  rcases b with _ | _
  · clear hf
    go_enter Try.func6, Try.ntmps6
    go_wp2_with (first
      | (go_at_call 8; refine (first_any _).mono ?_; rintro e w1 ⟨rfl, hb1⟩; replace hB0 := below_then hB0 hb1; clear hb1)
      | (go_at_call 9; refine (few_any A ls ca _ HL.out (HA.out.below hB0) HM.out).mono ?_; rw [HF.out]; rintro e w1 ⟨rfl, rfl⟩))
    go_ret
    exact ⟨rfl, hB0⟩
  · have hl100 := hf rfl
    clear hf
    by_cases hc20 : 20 < cuts.length
    · go_enter Try.func6, Try.ntmps6
      go_wp2_with (first
        | (go_at_call 8; refine (first_any _).mono ?_; rintro e w1 ⟨rfl, hb1⟩; replace hB0 := below_then hB0 hb1; clear hb1)
        | (go_at_call 9; refine (few_any A ls ca _ HL.out (HA.out.below hB0) HM.out).mono ?_; rw [HF.out]; rintro e w1 ⟨rfl, rfl⟩))
      go_ret
      exact ⟨rfl, hB0⟩
    · rcases framesF_err ls with ⟨hfr, hsh⟩ | ⟨hfr, _⟩
      · have hby := byt_frames ls hsh HY.out
        have htk := takeR_frames ls
        have hxl := framesL_len ls hsh
        generalize framesL ls = X at hfr hby htk hxl
        have HFR := Lib.hid hfr
        have HBY := Lib.hid hby
        have HTK := Lib.hid htk
        have hxl' : (X.length : Int) ≤ 6553700 := by omega
        clear hfr hby htk hxl hsh
        by_cases hbig : 20000 < X.length
        · go_enter Try.func6, Try.ntmps6
          go_wp2_with (first
            | (go_at_call 8; refine (first_any _).mono ?_; rintro e w1 ⟨rfl, hb1⟩; replace hB0 := below_then hB0 hb1; clear hb1)
            | (go_at_call 9; refine (few_any A ls ca _ HL.out (HA.out.below hB0) HM.out).mono ?_; rw [HF.out]; rintro e w1 ⟨rfl, rfl⟩)
            | (go_at_call 11; refine (framePut_any A ls ca _ (by omega) (HA.out.below hB0)).mono ?_; rw [HFR.out]; rintro e w2 ⟨v2, rfl, ho2, hb2⟩; obtain ⟨A2, c2, hv2, _, _⟩ := ho2.bv; simp only at hv2; subst hv2; replace hB0 := below_then hB0 hb2; clear hb2 ho2))
          go_ret
          exact ⟨rfl, hB0⟩
        · obtain ⟨i0, hi, hz0, hz1, hz2⟩ := info_parts (show (Try.prog.info? 23).map (fun i => (i.zero, i.size, i.bytes)) = some (some (.slice none 0 0), 1, 24) by kernel_rfl)
          go_enter Try.func6, Try.ntmps6
          go_wp2_with (first
            | (go_at_call 8; refine (first_any _).mono ?_; rintro e w1 ⟨rfl, hb1⟩; replace hB0 := below_then hB0 hb1; clear hb1)
            | (go_at_call 9; refine (few_any A ls ca _ HL.out (HA.out.below hB0) HM.out).mono ?_; rw [HF.out]; rintro e w1 ⟨rfl, rfl⟩)
            | (go_at_call 11; refine (framePut_any A ls ca _ (by omega) (HA.out.below hB0)).mono ?_; rw [HFR.out]; rintro e w2 ⟨v2, rfl, ho2, hb2⟩; obtain ⟨Ab, cb, hv2, hcb, _⟩ := ho2.bv; simp only at hv2; subst hv2; have HOB := Lib.hid (World.ownsRow.mono ho2 hB0.size); replace hB0 := below_then hB0 hb2; clear hb2 ho2)
            | (go_at_call 17; refine (newReader_any _ _).mono ?_; rintro e w3 ⟨rfl, hw3⟩; have hr3 : RdA w3 w2.heap.size X.length 0 (.slice none 0 0) false := (by rw [hw3]; exact heap_alloc_new w2 _); have hb3 : Below w2.heap.size w2 w3 := (by rw [hw3]; exact (Below.refl _ w2).alloc (Nat.le_refl _) _); have HG := Lib.hid (show w.heap.size ≤ w2.heap.size from hB0.size); have HP := Lib.hid (show Pc w w2.heap.size X (.slice Ab X.length cb) 0 (.slice none 0 0) (.slice none 0 0) (w2.heap.size + 1) w3 from ⟨hr3, (by show OwnB _ _ _ _; have : pr X 0 = [] := (by simp [pr]); rw [this]; exact World.ownsRow_nil _ _ _ _), (by have : pl X 0 = [] := (by simp [pl, takeR]); rw [this]; exact OwnM.nil _ _ _), own_below HOB.out hb3, (fun k hk => (World.ownsRow.lt HOB.out k hk).2), (fun k hk => by simp [Value.ownBlock] at hk), Nat.lt_succ_self _, below_then hB0 hb3⟩); clear hr3 hb3 hw3))
          have hHB := Lib.hid (show ∀ k, (Value.slice Ab X.length cb).ownBlock = some k → k < w2.heap.size from HP.out.hb)
          generalize w2.heap.size = g at HG HP hHB ⊢
          clear HOB hB0
          go_loopw [8, 9, 10] (fun vg va vi wr => ∃ (i a : Nat) (vr : Value) (mid : Nat), i ≤ cuts.length + 1 ∧ va = .int .i64 a ∧ vi = .int .i64 i ∧ a ≤ X.length ∧ (i = cuts.length + 1 → a = X.length) ∧ Hid (Pc w g X (.slice Ab X.length cb) a vg vr mid wr)) (fun _ _ vi _ => cuts.length + 1 - (intOf vi).toNat)
          case atStart => exact ⟨0, 0, _, _, by omega, rfl, rfl, by omega, by omega, HP⟩
          case round =>
            clear HP
            obtain ⟨i, a, vr, mid, hic, rfl, rfl, ha, hia, hp⟩ := hrel
            by_cases hlt : i ≤ cuts.length
            · clear hia
              by_cases hil : i < cuts.length
              · obtain ⟨b1, o1, hCe, hcx⟩ := HC.out (by intro h; rw [h] at hil; simp at hil)
                have hx1 := hcx i hil
                have hx2 := (hp.out.bel.cell (World.block_lt_of_cell? w _ hx1)).trans hx1
                have hx3 := HCB.out (cuts.getD i 0) (by rw [List.getD_eq_getElem?_getD, List.getElem?_eq_getElem hil]; exact List.getElem_mem hil)
                subst hCe
                clear hcx hx1
                generalize cuts.getD i 0 = c at hx2 hx3
                rcases (show c < 0 ∨ (0 ≤ c ∧ c ≤ (X.length : Int) - a) ∨ (0 ≤ c ∧ (X.length : Int) - a < c) by omega) with h | ⟨h, h'⟩ | ⟨h, h'⟩
                · go_upto_region 19 with fail
                  have hd1 : a ≤ a := by omega
                  have hd2 : a ≤ X.length := by omega
                  have hdc : a ≤ cb := by omega
                  obtain ⟨A', hA'⟩ : ∃ A', A' = (if cb = a then Ab else Ab.map (·.add a)) := ⟨_, rfl⟩
                  obtain ⟨A'', hA''⟩ : ∃ A'', A'' = (if cb = 0 then Ab else Ab.map (·.add 0)) := ⟨_, rfl⟩
                  have hsl := fun W => run_cut (P := Try.prog) W Try.underlying23 (fun w => by kernel_rfl) Ab X.length cb a a hd1 hdc
                  have hsl2 := fun W => run_cut0 (P := Try.prog) W Try.underlying23 (fun w => by kernel_rfl) Ab X.length cb a hdc
                  rw [← hA'] at hsl
                  rw [← hA''] at hsl2
                  have HI1 := Lib.hid (fun W n ho => cut_bytes hA' hcb hd1 hd2 W n ho)
                  have HI2 := Lib.hid (fun W n ho => head_bytes hA'' hcb hd2 W n ho)
                  have hst := pieces X hd1
                  have HPY := Lib.hid (show (py X a a).length = 0 by have := py_len X hd1 hd2; omega)
                  have hprl := pr_len X ha
                  have hprd := pr_len X hd2
                  have hal : Below wr.heap.size wr (wr.alloc (.cells #[.slice A' 0 (cb - a)] 23)) := (Below.refl _ _).alloc (Nat.le_refl _) _
                  have HP1 := Lib.hid (hp.out.below hal)
                  have HLAID := Lib.hid (hp.out.laid (A' := A') (c' := cb - a) HPY.out (by omega) (fun W ho => HI1.out W _ ho))
                  have ht1 : (tot [py X a a] : Int) = (a : Int) - a := by rw [tot_one, HPY.out]; omega
                  have HT1 := Lib.hid ht1
                  have ht2 : (a : Int) + tot [py X a a] = a := by rw [ht1]; omega
                  have hbytX : ∀ l ∈ [py X a a], Byt l := fun l hl => by
                    simp at hl; subst hl
                    exact fun y hy' => HBY.out y (List.mem_of_mem_drop (List.mem_of_mem_take hy'))
                  have hbytR : Byt (pr X a) := fun y hy' => HBY.out y (List.mem_of_mem_take (List.mem_of_mem_drop hy'))
                  have hfc := feed_ok g X.length a vr (pr X a) (some ⟨wr.heap.size, 0, none⟩) [py X a a] 1 (wr.alloc (.cells #[.slice A' 0 (cb - a)] 23)) (Nat.le_of_ble_eq_true rfl) (by omega) (by omega) (by rw [tot_one, HPY.out]; omega) HP1.out.ra (World.ownsRow.mono HP1.out.oa (Nat.zero_le _)) hbytR hbytX HLAID.out (by omega)
                  rw [ht2] at hfc
                  have HFC := Lib.hid hfc
                  have HST := Lib.hid hst
                  have hpld : (pl X a).length ≤ 10000 := by have := (takeR_le _ (X.take a) (Nat.le_refl _)).2; rw [List.length_take] at this; unfold pl; omega
                  have HPLD := Lib.hid hpld
                  have hbytD : Byt (X.take a) := fun y hy' => HBY.out y (List.mem_of_mem_take hy')
                  have HTD := Lib.hid hbytD
                  have HLD := Lib.hid (show (X.take a).length = a by rw [List.length_take]; omega)
                  have hleft : (((pr X a).length : Int) != (a : Int) - (pn X a : Nat)) = false := by rw [hprd.1]; simp; omega
                  have hleftw : (((pr X a).length : Int) != wrap64 ((a : Int) - (pn X a : Nat))) = false := by
                    have h1 := hprd.2
                    rw [show wrap64 ((a : Int) - (pn X a : Nat)) = (a : Int) - (pn X a : Nat) by unfold wrap64; omega]; exact hleft
                  clear hst hfc ht1 ht2 hbytX hbytR hal hA' hA'' hpld hbytD hprd hprl
                  have hlo := congrArg List.length HST.out.1
                  rw [List.length_append] at hlo
                  have hlo' : (pl X a).length + (takeR (pr X a ++ [py X a a].flatten)).1.length ≤ 10000 := by have := HPLD.out; omega
                  have HLO := Lib.hid hlo'
                  have HLEFT := Lib.hid hleft
                  clear hlo hlo'
                  go_wp2_with (first
                    | (go_at_call 19; refine HFC.out.mono ?_; rintro e w3 ⟨ht3, vo, u, mid', rfl, hr3, hm1, hm2, ho3, hom3⟩; rw [HST.out.2] at ho3; obtain ⟨Au, cu, hu, _, _⟩ := ho3.bv; subst hu; have hfed := HP1.out.fed HG.out ht3 hr3 hm1 ho3 hom3; obtain ⟨vs0, hl0, hr0, h30⟩ := hfed.2.2.1; obtain ⟨ns, hsrc, hln, hm0⟩ := hfed.2.2.2.1.src (P := Try.prog) Try.underlying22; have hg3 : g + 1 ≤ w3.heap.size := Nat.le_trans hfed.2.2.2.2.2.2.1 hm2; have HFED := Lib.hid hfed; have HL0 := Lib.hid hl0; have HR0 := Lib.hid hr0; have H30 := Lib.hid h30; have HSRC := Lib.hid hsrc; have HLN := Lib.hid hln; have HM0 := Lib.hid hm0; have HG3 := Lib.hid hg3; clear ht3 hr3 hm1 hm2 ho3 hom3 hfed hl0 hr0 h30 hsrc hln hm0 hg3)
                    | (at_builtin; go_must (refine wp_append_src (w0 := World.bare w3) (g + 1) 1 24 (.tmp 96) (.tmp 97) 22 22 23 rfl rfl Try.underlying22 hi hz0 hz1 hz2 rfl (by decide) HR0.out rfl HSRC.out rfl (by have := HLO.out; unfold maxLen; omega) (by have := HLO.out; omega) (below_bare _) HG3.out (Nat.zero_le _) ?_); intro v4 w4 ho4 _ hg4 _; have hp4 := Pc.next HG.out HFED.out hHB.out HL0.out HR0.out H30.out HLN.out HM0.out hg4 ho4 HST.out.1; obtain ⟨A6, c6, hv6, _, hr6⟩ := hp4.og.own.own.rows; subst hv6; have HP4 := Lib.hid hp4; have HR6 := Lib.hid hr6; clear ho4 hg4 hp4 hr6)
                    | (go_at_call 13; have c := take_any A'' (X.take a) cb w4 (by rw [HLD.out]; omega) (by rw [HLD.out]; omega) HTD.out (HI2.out w4 _ HP4.out.ob); rw [HLD.out, show takeR (X.take a) = (pl X a, pn X a) from rfl] at c; refine c.mono ?_; clear c; rintro e w5 ⟨v5, rfl, ho5, hb5⟩; obtain ⟨A7, c7, hv7, _, hr7⟩ := ho5.own.rows; simp only at hv7; subst hv7; have HP5 := Lib.hid (HP4.out.below hb5); replace HR6 := Lib.hid (HR6.out.below hb5); have HR7 := Lib.hid hr7; clear ho5 hb5 hr7)
                    | (go_at_call 15; refine (lists_same A6 A7 (pl X a) c6 c7 w5 (by have := HPLD.out; omega) HR6.out HR7.out).mono ?_; rintro e w6 ⟨rfl, hb6⟩; have HP6 := Lib.hid (HP5.out.below hb6); clear hb6)
                    | (go_at_call 21; refine (leftA_any g _ _ _ _ _ _ _ HP6.out.ra).mono ?_; rintro e w7 ⟨rfl, rfl⟩))
                  go_roundw
                  case rel => exact ⟨i + 1, a, _, _, by omega, rfl, by go_num, hd2, fun h => by omega, HP6⟩
                  case measure => simp [intOf] <;> omega
                · obtain ⟨e, rfl⟩ := Int.eq_ofNat_of_zero_le h
                  go_upto_region 19 with fail
                  rw [show ((a : Int) + (e : Int)) = ((a + e : Nat) : Int) by omega]
                  have had : a ≤ a + e := by omega
                  have hadx : a + e ≤ X.length := by omega
                  generalize a + e = d at had hadx ⊢
                  have hd1 : a ≤ d := by omega
                  have hd2 : d ≤ X.length := by omega
                  have hdc : d ≤ cb := by omega
                  obtain ⟨A', hA'⟩ : ∃ A', A' = (if cb = a then Ab else Ab.map (·.add a)) := ⟨_, rfl⟩
                  obtain ⟨A'', hA''⟩ : ∃ A'', A'' = (if cb = 0 then Ab else Ab.map (·.add 0)) := ⟨_, rfl⟩
                  have hsl := fun W => run_cut (P := Try.prog) W Try.underlying23 (fun w => by kernel_rfl) Ab X.length cb a d hd1 hdc
                  have hsl2 := fun W => run_cut0 (P := Try.prog) W Try.underlying23 (fun w => by kernel_rfl) Ab X.length cb d hdc
                  rw [← hA'] at hsl
                  rw [← hA''] at hsl2
                  have HI1 := Lib.hid (fun W n ho => cut_bytes hA' hcb hd1 hd2 W n ho)
                  have HI2 := Lib.hid (fun W n ho => head_bytes hA'' hcb hd2 W n ho)
                  have hst := pieces X hd1
                  have HPY := Lib.hid (show (py X a d).length = (d - a) by have := py_len X hd1 hd2; omega)
                  have hprl := pr_len X ha
                  have hprd := pr_len X hd2
                  have hal : Below wr.heap.size wr (wr.alloc (.cells #[.slice A' (d - a) (cb - a)] 23)) := (Below.refl _ _).alloc (Nat.le_refl _) _
                  have HP1 := Lib.hid (hp.out.below hal)
                  have HLAID := Lib.hid (hp.out.laid (A' := A') (c' := cb - a) HPY.out (by omega) (fun W ho => HI1.out W _ ho))
                  have ht1 : (tot [py X a d] : Int) = (d : Int) - a := by rw [tot_one, HPY.out]; omega
                  have HT1 := Lib.hid ht1
                  have ht2 : (a : Int) + tot [py X a d] = d := by rw [ht1]; omega
                  have hbytX : ∀ l ∈ [py X a d], Byt l := fun l hl => by
                    simp at hl; subst hl
                    exact fun y hy' => HBY.out y (List.mem_of_mem_drop (List.mem_of_mem_take hy'))
                  have hbytR : Byt (pr X a) := fun y hy' => HBY.out y (List.mem_of_mem_take (List.mem_of_mem_drop hy'))
                  have hfc := feed_ok g X.length a vr (pr X a) (some ⟨wr.heap.size, 0, none⟩) [py X a d] 1 (wr.alloc (.cells #[.slice A' (d - a) (cb - a)] 23)) (Nat.le_of_ble_eq_true rfl) (by omega) (by omega) (by rw [tot_one, HPY.out]; omega) HP1.out.ra (World.ownsRow.mono HP1.out.oa (Nat.zero_le _)) hbytR hbytX HLAID.out (by omega)
                  rw [ht2] at hfc
                  have HFC := Lib.hid hfc
                  have HST := Lib.hid hst
                  have hpld : (pl X d).length ≤ 10000 := by have := (takeR_le _ (X.take d) (Nat.le_refl _)).2; rw [List.length_take] at this; unfold pl; omega
                  have HPLD := Lib.hid hpld
                  have hbytD : Byt (X.take d) := fun y hy' => HBY.out y (List.mem_of_mem_take hy')
                  have HTD := Lib.hid hbytD
                  have HLD := Lib.hid (show (X.take d).length = d by rw [List.length_take]; omega)
                  have hleft : (((pr X d).length : Int) != (d : Int) - (pn X d : Nat)) = false := by rw [hprd.1]; simp; omega
                  have hleftw : (((pr X d).length : Int) != wrap64 ((d : Int) - (pn X d : Nat))) = false := by
                    have h1 := hprd.2
                    rw [show wrap64 ((d : Int) - (pn X d : Nat)) = (d : Int) - (pn X d : Nat) by unfold wrap64; omega]; exact hleft
                  clear hst hfc ht1 ht2 hbytX hbytR hal hA' hA'' hpld hbytD hprd hprl
                  have hlo := congrArg List.length HST.out.1
                  rw [List.length_append] at hlo
                  have hlo' : (pl X a).length + (takeR (pr X a ++ [py X a d].flatten)).1.length ≤ 10000 := by have := HPLD.out; omega
                  have HLO := Lib.hid hlo'
                  have HLEFT := Lib.hid hleft
                  clear hlo hlo'
                  go_wp2_with (first
                    | (go_at_call 19; refine HFC.out.mono ?_; rintro e w3 ⟨ht3, vo, u, mid', rfl, hr3, hm1, hm2, ho3, hom3⟩; rw [HST.out.2] at ho3; obtain ⟨Au, cu, hu, _, _⟩ := ho3.bv; subst hu; have hfed := HP1.out.fed HG.out ht3 hr3 hm1 ho3 hom3; obtain ⟨vs0, hl0, hr0, h30⟩ := hfed.2.2.1; obtain ⟨ns, hsrc, hln, hm0⟩ := hfed.2.2.2.1.src (P := Try.prog) Try.underlying22; have hg3 : g + 1 ≤ w3.heap.size := Nat.le_trans hfed.2.2.2.2.2.2.1 hm2; have HFED := Lib.hid hfed; have HL0 := Lib.hid hl0; have HR0 := Lib.hid hr0; have H30 := Lib.hid h30; have HSRC := Lib.hid hsrc; have HLN := Lib.hid hln; have HM0 := Lib.hid hm0; have HG3 := Lib.hid hg3; clear ht3 hr3 hm1 hm2 ho3 hom3 hfed hl0 hr0 h30 hsrc hln hm0 hg3)
                    | (at_builtin; go_must (refine wp_append_src (w0 := World.bare w3) (g + 1) 1 24 (.tmp 96) (.tmp 97) 22 22 23 rfl rfl Try.underlying22 hi hz0 hz1 hz2 rfl (by decide) HR0.out rfl HSRC.out rfl (by have := HLO.out; unfold maxLen; omega) (by have := HLO.out; omega) (below_bare _) HG3.out (Nat.zero_le _) ?_); intro v4 w4 ho4 _ hg4 _; have hp4 := Pc.next HG.out HFED.out hHB.out HL0.out HR0.out H30.out HLN.out HM0.out hg4 ho4 HST.out.1; obtain ⟨A6, c6, hv6, _, hr6⟩ := hp4.og.own.own.rows; subst hv6; have HP4 := Lib.hid hp4; have HR6 := Lib.hid hr6; clear ho4 hg4 hp4 hr6)
                    | (go_at_call 13; have c := take_any A'' (X.take d) cb w4 (by rw [HLD.out]; omega) (by rw [HLD.out]; omega) HTD.out (HI2.out w4 _ HP4.out.ob); rw [HLD.out, show takeR (X.take d) = (pl X d, pn X d) from rfl] at c; refine c.mono ?_; clear c; rintro e w5 ⟨v5, rfl, ho5, hb5⟩; obtain ⟨A7, c7, hv7, _, hr7⟩ := ho5.own.rows; simp only at hv7; subst hv7; have HP5 := Lib.hid (HP4.out.below hb5); replace HR6 := Lib.hid (HR6.out.below hb5); have HR7 := Lib.hid hr7; clear ho5 hb5 hr7)
                    | (go_at_call 15; refine (lists_same A6 A7 (pl X d) c6 c7 w5 (by have := HPLD.out; omega) HR6.out HR7.out).mono ?_; rintro e w6 ⟨rfl, hb6⟩; have HP6 := Lib.hid (HP5.out.below hb6); clear hb6)
                    | (go_at_call 21; refine (leftA_any g _ _ _ _ _ _ _ HP6.out.ra).mono ?_; rintro e w7 ⟨rfl, rfl⟩))
                  go_roundw
                  case rel => exact ⟨i + 1, d, _, _, by omega, rfl, by go_num, hd2, fun h => by omega, HP6⟩
                  case measure => simp [intOf] <;> omega
                · go_upto_region 19 with fail
                  rw [show ((a : Int) + ((X.length : Int) - (a : Int))) = (X.length : Int) by omega]
                  have hd1 : a ≤ X.length := by omega
                  have hd2 : X.length ≤ X.length := by omega
                  have hdc : X.length ≤ cb := by omega
                  obtain ⟨A', hA'⟩ : ∃ A', A' = (if cb = a then Ab else Ab.map (·.add a)) := ⟨_, rfl⟩
                  obtain ⟨A'', hA''⟩ : ∃ A'', A'' = (if cb = 0 then Ab else Ab.map (·.add 0)) := ⟨_, rfl⟩
                  have hsl := fun W => run_cut (P := Try.prog) W Try.underlying23 (fun w => by kernel_rfl) Ab X.length cb a X.length hd1 hdc
                  have hsl2 := fun W => run_cut0 (P := Try.prog) W Try.underlying23 (fun w => by kernel_rfl) Ab X.length cb X.length hdc
                  rw [← hA'] at hsl
                  rw [← hA''] at hsl2
                  have HI1 := Lib.hid (fun W n ho => cut_bytes hA' hcb hd1 hd2 W n ho)
                  have HI2 := Lib.hid (fun W n ho => head_bytes hA'' hcb hd2 W n ho)
                  have hst := pieces X hd1
                  have HPY := Lib.hid (show (py X a X.length).length = (X.length - a) by have := py_len X hd1 hd2; omega)
                  have hprl := pr_len X ha
                  have hprd := pr_len X hd2
                  have hal : Below wr.heap.size wr (wr.alloc (.cells #[.slice A' (X.length - a) (cb - a)] 23)) := (Below.refl _ _).alloc (Nat.le_refl _) _
                  have HP1 := Lib.hid (hp.out.below hal)
                  have HLAID := Lib.hid (hp.out.laid (A' := A') (c' := cb - a) HPY.out (by omega) (fun W ho => HI1.out W _ ho))
                  have ht1 : (tot [py X a X.length] : Int) = (X.length : Int) - a := by rw [tot_one, HPY.out]; omega
                  have HT1 := Lib.hid ht1
                  have ht2 : (a : Int) + tot [py X a X.length] = X.length := by rw [ht1]; omega
                  have hbytX : ∀ l ∈ [py X a X.length], Byt l := fun l hl => by
                    simp at hl; subst hl
                    exact fun y hy' => HBY.out y (List.mem_of_mem_drop (List.mem_of_mem_take hy'))
                  have hbytR : Byt (pr X a) := fun y hy' => HBY.out y (List.mem_of_mem_take (List.mem_of_mem_drop hy'))
                  have hfc := feed_ok g X.length a vr (pr X a) (some ⟨wr.heap.size, 0, none⟩) [py X a X.length] 1 (wr.alloc (.cells #[.slice A' (X.length - a) (cb - a)] 23)) (Nat.le_of_ble_eq_true rfl) (by omega) (by omega) (by rw [tot_one, HPY.out]; omega) HP1.out.ra (World.ownsRow.mono HP1.out.oa (Nat.zero_le _)) hbytR hbytX HLAID.out (by omega)
                  rw [ht2] at hfc
                  have HFC := Lib.hid hfc
                  have HST := Lib.hid hst
                  have hpld : (pl X X.length).length ≤ 10000 := by have := (takeR_le _ (X.take X.length) (Nat.le_refl _)).2; rw [List.length_take] at this; unfold pl; omega
                  have HPLD := Lib.hid hpld
                  have hbytD : Byt (X.take X.length) := fun y hy' => HBY.out y (List.mem_of_mem_take hy')
                  have HTD := Lib.hid hbytD
                  have HLD := Lib.hid (show (X.take X.length).length = X.length by rw [List.length_take]; omega)
                  have hleft : (((pr X X.length).length : Int) != (X.length : Int) - (pn X X.length : Nat)) = false := by rw [hprd.1]; simp; omega
                  have hleftw : (((pr X X.length).length : Int) != wrap64 ((X.length : Int) - (pn X X.length : Nat))) = false := by
                    have h1 := hprd.2
                    rw [show wrap64 ((X.length : Int) - (pn X X.length : Nat)) = (X.length : Int) - (pn X X.length : Nat) by unfold wrap64; omega]; exact hleft
                  clear hst hfc ht1 ht2 hbytX hbytR hal hA' hA'' hpld hbytD hprd hprl
                  have hlo := congrArg List.length HST.out.1
                  rw [List.length_append] at hlo
                  have hlo' : (pl X a).length + (takeR (pr X a ++ [py X a X.length].flatten)).1.length ≤ 10000 := by have := HPLD.out; omega
                  have HLO := Lib.hid hlo'
                  have HLEFT := Lib.hid hleft
                  clear hlo hlo'
                  go_wp2_with (first
                    | (go_at_call 19; refine HFC.out.mono ?_; rintro e w3 ⟨ht3, vo, u, mid', rfl, hr3, hm1, hm2, ho3, hom3⟩; rw [HST.out.2] at ho3; obtain ⟨Au, cu, hu, _, _⟩ := ho3.bv; subst hu; have hfed := HP1.out.fed HG.out ht3 hr3 hm1 ho3 hom3; obtain ⟨vs0, hl0, hr0, h30⟩ := hfed.2.2.1; obtain ⟨ns, hsrc, hln, hm0⟩ := hfed.2.2.2.1.src (P := Try.prog) Try.underlying22; have hg3 : g + 1 ≤ w3.heap.size := Nat.le_trans hfed.2.2.2.2.2.2.1 hm2; have HFED := Lib.hid hfed; have HL0 := Lib.hid hl0; have HR0 := Lib.hid hr0; have H30 := Lib.hid h30; have HSRC := Lib.hid hsrc; have HLN := Lib.hid hln; have HM0 := Lib.hid hm0; have HG3 := Lib.hid hg3; clear ht3 hr3 hm1 hm2 ho3 hom3 hfed hl0 hr0 h30 hsrc hln hm0 hg3)
                    | (at_builtin; go_must (refine wp_append_src (w0 := World.bare w3) (g + 1) 1 24 (.tmp 96) (.tmp 97) 22 22 23 rfl rfl Try.underlying22 hi hz0 hz1 hz2 rfl (by decide) HR0.out rfl HSRC.out rfl (by have := HLO.out; unfold maxLen; omega) (by have := HLO.out; omega) (below_bare _) HG3.out (Nat.zero_le _) ?_); intro v4 w4 ho4 _ hg4 _; have hp4 := Pc.next HG.out HFED.out hHB.out HL0.out HR0.out H30.out HLN.out HM0.out hg4 ho4 HST.out.1; obtain ⟨A6, c6, hv6, _, hr6⟩ := hp4.og.own.own.rows; subst hv6; have HP4 := Lib.hid hp4; have HR6 := Lib.hid hr6; clear ho4 hg4 hp4 hr6)
                    | (go_at_call 13; have c := take_any A'' (X.take X.length) cb w4 (by rw [HLD.out]; omega) (by rw [HLD.out]; omega) HTD.out (HI2.out w4 _ HP4.out.ob); rw [HLD.out, show takeR (X.take X.length) = (pl X X.length, pn X X.length) from rfl] at c; refine c.mono ?_; clear c; rintro e w5 ⟨v5, rfl, ho5, hb5⟩; obtain ⟨A7, c7, hv7, _, hr7⟩ := ho5.own.rows; simp only at hv7; subst hv7; have HP5 := Lib.hid (HP4.out.below hb5); replace HR6 := Lib.hid (HR6.out.below hb5); have HR7 := Lib.hid hr7; clear ho5 hb5 hr7)
                    | (go_at_call 15; refine (lists_same A6 A7 (pl X X.length) c6 c7 w5 (by have := HPLD.out; omega) HR6.out HR7.out).mono ?_; rintro e w6 ⟨rfl, hb6⟩; have HP6 := Lib.hid (HP5.out.below hb6); clear hb6)
                    | (go_at_call 21; refine (leftA_any g _ _ _ _ _ _ _ HP6.out.ra).mono ?_; rintro e w7 ⟨rfl, rfl⟩))
                  go_roundw
                  case rel => exact ⟨i + 1, X.length, _, _, by omega, rfl, by go_num, hd2, fun h => by omega, HP6⟩
                  case measure => simp [intOf] <;> omega
              · obtain rfl : i = cuts.length := by omega
                go_upto_region 19 with fail
                have hd1 : a ≤ X.length := by omega
                have hd2 : X.length ≤ X.length := by omega
                have hdc : X.length ≤ cb := by omega
                obtain ⟨A', hA'⟩ : ∃ A', A' = (if cb = a then Ab else Ab.map (·.add a)) := ⟨_, rfl⟩
                obtain ⟨A'', hA''⟩ : ∃ A'', A'' = (if cb = 0 then Ab else Ab.map (·.add 0)) := ⟨_, rfl⟩
                have hsl := fun W => run_cut (P := Try.prog) W Try.underlying23 (fun w => by kernel_rfl) Ab X.length cb a X.length hd1 hdc
                have hsl2 := fun W => run_cut0 (P := Try.prog) W Try.underlying23 (fun w => by kernel_rfl) Ab X.length cb X.length hdc
                rw [← hA'] at hsl
                rw [← hA''] at hsl2
                have HI1 := Lib.hid (fun W n ho => cut_bytes hA' hcb hd1 hd2 W n ho)
                have HI2 := Lib.hid (fun W n ho => head_bytes hA'' hcb hd2 W n ho)
                have hst := pieces X hd1
                have HPY := Lib.hid (show (py X a X.length).length = (X.length - a) by have := py_len X hd1 hd2; omega)
                have hprl := pr_len X ha
                have hprd := pr_len X hd2
                have hal : Below wr.heap.size wr (wr.alloc (.cells #[.slice A' (X.length - a) (cb - a)] 23)) := (Below.refl _ _).alloc (Nat.le_refl _) _
                have HP1 := Lib.hid (hp.out.below hal)
                have HLAID := Lib.hid (hp.out.laid (A' := A') (c' := cb - a) HPY.out (by omega) (fun W ho => HI1.out W _ ho))
                have ht1 : (tot [py X a X.length] : Int) = (X.length : Int) - a := by rw [tot_one, HPY.out]; omega
                have HT1 := Lib.hid ht1
                have ht2 : (a : Int) + tot [py X a X.length] = X.length := by rw [ht1]; omega
                have hbytX : ∀ l ∈ [py X a X.length], Byt l := fun l hl => by
                  simp at hl; subst hl
                  exact fun y hy' => HBY.out y (List.mem_of_mem_drop (List.mem_of_mem_take hy'))
                have hbytR : Byt (pr X a) := fun y hy' => HBY.out y (List.mem_of_mem_take (List.mem_of_mem_drop hy'))
                have hfc := feed_ok g X.length a vr (pr X a) (some ⟨wr.heap.size, 0, none⟩) [py X a X.length] 1 (wr.alloc (.cells #[.slice A' (X.length - a) (cb - a)] 23)) (Nat.le_of_ble_eq_true rfl) (by omega) (by omega) (by rw [tot_one, HPY.out]; omega) HP1.out.ra (World.ownsRow.mono HP1.out.oa (Nat.zero_le _)) hbytR hbytX HLAID.out (by omega)
                rw [ht2] at hfc
                have HFC := Lib.hid hfc
                have HST := Lib.hid hst
                have hpld : (pl X X.length).length ≤ 10000 := by have := (takeR_le _ (X.take X.length) (Nat.le_refl _)).2; rw [List.length_take] at this; unfold pl; omega
                have HPLD := Lib.hid hpld
                have hbytD : Byt (X.take X.length) := fun y hy' => HBY.out y (List.mem_of_mem_take hy')
                have HTD := Lib.hid hbytD
                have HLD := Lib.hid (show (X.take X.length).length = X.length by rw [List.length_take]; omega)
                have hleft : (((pr X X.length).length : Int) != (X.length : Int) - (pn X X.length : Nat)) = false := by rw [hprd.1]; simp; omega
                have hleftw : (((pr X X.length).length : Int) != wrap64 ((X.length : Int) - (pn X X.length : Nat))) = false := by
                  have h1 := hprd.2
                  rw [show wrap64 ((X.length : Int) - (pn X X.length : Nat)) = (X.length : Int) - (pn X X.length : Nat) by unfold wrap64; omega]; exact hleft
                clear hst hfc ht1 ht2 hbytX hbytR hal hA' hA'' hpld hbytD hprd hprl
                have hlo := congrArg List.length HST.out.1
                rw [List.length_append] at hlo
                have hlo' : (pl X a).length + (takeR (pr X a ++ [py X a X.length].flatten)).1.length ≤ 10000 := by have := HPLD.out; omega
                have HLO := Lib.hid hlo'
                have HLEFT := Lib.hid hleft
                clear hlo hlo'
                go_wp2_with (first
                  | (go_at_call 19; refine HFC.out.mono ?_; rintro e w3 ⟨ht3, vo, u, mid', rfl, hr3, hm1, hm2, ho3, hom3⟩; rw [HST.out.2] at ho3; obtain ⟨Au, cu, hu, _, _⟩ := ho3.bv; subst hu; have hfed := HP1.out.fed HG.out ht3 hr3 hm1 ho3 hom3; obtain ⟨vs0, hl0, hr0, h30⟩ := hfed.2.2.1; obtain ⟨ns, hsrc, hln, hm0⟩ := hfed.2.2.2.1.src (P := Try.prog) Try.underlying22; have hg3 : g + 1 ≤ w3.heap.size := Nat.le_trans hfed.2.2.2.2.2.2.1 hm2; have HFED := Lib.hid hfed; have HL0 := Lib.hid hl0; have HR0 := Lib.hid hr0; have H30 := Lib.hid h30; have HSRC := Lib.hid hsrc; have HLN := Lib.hid hln; have HM0 := Lib.hid hm0; have HG3 := Lib.hid hg3; clear ht3 hr3 hm1 hm2 ho3 hom3 hfed hl0 hr0 h30 hsrc hln hm0 hg3)
                  | (at_builtin; go_must (refine wp_append_src (w0 := World.bare w3) (g + 1) 1 24 (.tmp 96) (.tmp 97) 22 22 23 rfl rfl Try.underlying22 hi hz0 hz1 hz2 rfl (by decide) HR0.out rfl HSRC.out rfl (by have := HLO.out; unfold maxLen; omega) (by have := HLO.out; omega) (below_bare _) HG3.out (Nat.zero_le _) ?_); intro v4 w4 ho4 _ hg4 _; have hp4 := Pc.next HG.out HFED.out hHB.out HL0.out HR0.out H30.out HLN.out HM0.out hg4 ho4 HST.out.1; obtain ⟨A6, c6, hv6, _, hr6⟩ := hp4.og.own.own.rows; subst hv6; have HP4 := Lib.hid hp4; have HR6 := Lib.hid hr6; clear ho4 hg4 hp4 hr6)
                  | (go_at_call 13; have c := take_any A'' (X.take X.length) cb w4 (by rw [HLD.out]; omega) (by rw [HLD.out]; omega) HTD.out (HI2.out w4 _ HP4.out.ob); rw [HLD.out, show takeR (X.take X.length) = (pl X X.length, pn X X.length) from rfl] at c; refine c.mono ?_; clear c; rintro e w5 ⟨v5, rfl, ho5, hb5⟩; obtain ⟨A7, c7, hv7, _, hr7⟩ := ho5.own.rows; simp only at hv7; subst hv7; have HP5 := Lib.hid (HP4.out.below hb5); replace HR6 := Lib.hid (HR6.out.below hb5); have HR7 := Lib.hid hr7; clear ho5 hb5 hr7)
                  | (go_at_call 15; refine (lists_same A6 A7 (pl X X.length) c6 c7 w5 (by have := HPLD.out; omega) HR6.out HR7.out).mono ?_; rintro e w6 ⟨rfl, hb6⟩; have HP6 := Lib.hid (HP5.out.below hb6); clear hb6)
                  | (go_at_call 21; refine (leftA_any g _ _ _ _ _ _ _ HP6.out.ra).mono ?_; rintro e w7 ⟨rfl, rfl⟩))
                go_roundw
                case rel => exact ⟨cuts.length + 1, X.length, _, _, by omega, rfl, by go_num, hd2, fun h => by omega, HP6⟩
                case measure => simp [intOf] <;> omega
            · obtain rfl : i = cuts.length + 1 := by omega
              obtain rfl := hia rfl
              have hpl : pl X X.length = ls := by unfold pl; rw [List.take_length, HTK.out]
              have hog := hp.out.og
              rw [hpl] at hog
              obtain ⟨A6, c6, hv6, hc6, _⟩ := hog.own.own.rows
              subst hv6
              have hb2 : Below wr.heap.size wr ((wr.alloc (.cells #[.int .u8 0] 5)).alloc (.cells #[.slice (some ⟨wr.heap.size, 0, none⟩) 1 1] 23)) := ((Below.refl wr.heap.size wr).alloc (Nat.le_refl _) _).alloc (by simp) _
              have hp2 := hp.out.below hb2
              have hbl1 : ((wr.alloc (.cells #[.int .u8 0] 5)).alloc (.cells #[.slice (some ⟨wr.heap.size, 0, none⟩) 1 1] 23)).heap[wr.heap.size]? = some (.cells #[.int .u8 0] 5) := blk_alloc (heap_alloc_new wr _) _
              have hbl2 : ((wr.alloc (.cells #[.int .u8 0] 5)).alloc (.cells #[.slice (some ⟨wr.heap.size, 0, none⟩) 1 1] 23)).heap[wr.heap.size + 1]? = some (.cells #[.slice (some ⟨wr.heap.size, 0, none⟩) 1 1] 23) := by
                have := heap_alloc_new (wr.alloc (.cells #[.int .u8 0] 5)) (.cells #[.slice (some ⟨wr.heap.size, 0, none⟩) 1 1] 23)
                simpa using this
              have hgl := hp.out.glt
              have hvl := World.ownsRow.lt hp.out.oa
              have HROW := Lib.hid (show ∀ wq, Tch g vr.ownBlock ((wr.alloc (.cells #[.int .u8 0] 5)).alloc (.cells #[.slice (some ⟨wr.heap.size, 0, none⟩) 1 1] 23)) wq → Rows wq (some ⟨wr.heap.size + 1, 0, none⟩) [[0]] from fun wq ht => by
                have e1 := (ht.block wr.heap.size (by simp; omega) (by omega) (fun e => by have := (hvl _ e.symm).2; omega)).trans hbl1
                have e2 := (ht.block (wr.heap.size + 1) (by simp) (by omega) (fun e => by have := (hvl _ e.symm).2; omega)).trans hbl2
                exact rows_one e2 ⟨_, 1, rfl, Nat.le_refl _, ints_blk (l := [0]) e1⟩)
              have ht0 : ((X.length : Int) + (tot [[0]] : Nat)) = (X.length : Int) + 1 := by rw [tot_one]; rfl
              have ht00 : ((X.length : Int) + 1 + (tot [] : Nat)) = (X.length : Int) + 1 := by simp [tot]
              have hf1 := feed_over g X.length X.length vr false (some ⟨wr.heap.size + 1, 0, none⟩) [[0]] 1 ((wr.alloc (.cells #[.int .u8 0] 5)).alloc (.cells #[.slice (some ⟨wr.heap.size, 0, none⟩) 1 1] 23)) (Nat.le_of_ble_eq_true rfl) (by omega) (by rw [ht0]; omega) hp2.ra HROW.out (.inr (by rw [ht0]; omega))
              rw [ht0] at hf1
              have HF1 := Lib.hid hf1
              have HF2 := Lib.hid (fun (w3 : World) (hr : RdA w3 g X.length ((X.length : Int) + 1) (.slice none 0 0) true) => (by
                have h := feed_over g X.length ((X.length : Int) + 1) (.slice none 0 0) true none [] 0 w3 (Nat.le_of_ble_eq_true rfl) (by omega) (by rw [ht00]; omega) hr (fun wr _ h => absurd rfl h) (.inl rfl)
                rw [ht00] at h
                exact h : Calls Try.prog 19 #[.pointer (some ⟨g, 0, none⟩), .slice none 0 0] w3 fun e w' => Tch g (Value.slice none 0 0).ownBlock w3 w' ∧ e = .returned (.tuple #[.slice none 0 0, .int .i64 13]) ∧ RdA w' g X.length ((X.length : Int) + 1) (.slice none 0 0) true))
              have HP2 := Lib.hid hp2
              have HOG := Lib.hid (OwnM.below hog hb2)
              clear hf1 hp2 hb2 hbl1 hbl2 hgl hvl ht0 ht00 hpl hog
              go_wp2_with (first
                | (go_at_call 19; first | (have hh := HF1.out; clear HF1; refine hh.mono ?_; clear hh; rintro e w3 ⟨ht3, rfl, hr3⟩; replace HOG := Lib.hid (OwnM.beside ht3 HP2.out.oa HOG.out (Nat.lt_succ_self _) HP2.out.hv); have HB3 := Lib.hid (HP2.out.bel.trans (ht3.toBelow HP2.out.bel.size HG.out (fun n hn => (World.ownsRow.lt HP2.out.oa n hn).1))); have HR3 := Lib.hid hr3; clear ht3 hr3) | (refine (HF2.out w3 HR3.out).mono ?_; rintro e w4 ⟨ht4, rfl, _⟩; replace HOG := Lib.hid (OwnM.beside ht4 (World.ownsRow_nil w3 0 5 1) HOG.out (Nat.lt_succ_self _) (fun k hk => by simp [Value.ownBlock] at hk)); have HB4 := Lib.hid (HB3.out.trans (ht4.toBelow HB3.out.size HG.out (fun k hk => by simp [Value.ownBlock] at hk))); clear ht4))
                | (go_at_call 8; refine (first_any _).mono ?_; rintro e w5 ⟨rfl, hb5⟩; replace HOG := Lib.hid (OwnM.below HOG.out hb5); have HB5 := Lib.hid (below_then HB4.out hb5); clear hb5)
                | (go_at_call 15; obtain ⟨A7, c7, hv7, _, hr7⟩ := HOG.out.own.own.rows; obtain ⟨rfl, rfl⟩ : A6 = A7 ∧ c6 = c7 := (by simp at hv7; exact hv7); refine (lists_same A6 A ls c6 ca w5 (by omega) hr7 (HA.out.below HB5.out)).mono ?_; rintro e w6 ⟨rfl, hb6⟩; have HB6 := Lib.hid (below_then HB5.out hb6); clear hb6 hr7 hv7))
              go_ret
              exact ⟨rfl, HB6.out⟩
      · have HFR := Lib.hid hfr
        clear hfr
        go_enter Try.func6, Try.ntmps6
        go_wp2_with (first
          | (go_at_call 8; refine (first_any _).mono ?_; rintro e w1 ⟨rfl, hb1⟩; replace hB0 := below_then hB0 hb1; clear hb1)
          | (go_at_call 9; refine (few_any A ls ca _ HL.out (HA.out.below hB0) HM.out).mono ?_; rw [HF.out]; rintro e w1 ⟨rfl, rfl⟩)
          | (go_at_call 11; refine (framePut_any A ls ca _ (by omega) (HA.out.below hB0)).mono ?_; rw [HFR.out]; rintro e w2 ⟨v2, rfl, ho2, hb2⟩; obtain ⟨A2, c2, hv2, _, _⟩ := ho2.bv; simp only [List.length_nil] at hv2; subst hv2; replace hB0 := below_then hB0 hb2; clear hb2 ho2))
        go_ret
        exact ⟨rfl, hB0⟩
end Go.Proofs.Ytkcffggjggedjaa
