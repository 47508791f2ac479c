/- frame.Take and rhzref5.Take: what the calls come to. -/
import Derived.Test.YtkcffggjggedjaaFrA
import Derived.Test.YtkcffggjggedjaaFrPlain
import Derived.Deep.Onto
namespace Go.Proofs.Ytkcffggjggedjaa
open Go.RowKit

/-- 'n<<8 | c'. -/
theorem or_byte (n c : Nat) (hn : n < 1099511627776) (hc : c < 256) : bits .or .i64 ((n : Int) * 256) (c : Int) = ((256 * n + c : Nat) : Int) := by
  have h := (bits_nat .i64 63 (by decide) (fun z h0 h1 => by rw [IntKind.wrap_i64]; omega) (n * 256) c (by omega) (by omega)).2
  rw [show ((n : Int) * 256) = ((n * 256 : Nat) : Int) by omega, h]
  have h2 := Nat.two_pow_add_eq_or_of_lt (i := 8) hc n
  rw [show n * 256 = 2 ^ 8 * n by omega, ← h2]
theorem or_byte' (x y : Int) (hx0 : 0 ≤ x) (hx : x ≤ 255) (hy0 : 0 ≤ y) (hy : y ≤ 255) : bits .or .i64 (x * 256) y = ((256 * x.toNat + y.toNat : Nat) : Int) := by
  obtain ⟨a, rfl⟩ := Int.eq_ofNat_of_zero_le hx0
  obtain ⟨b, rfl⟩ := Int.eq_ofNat_of_zero_le hy0
  rw [or_byte a b (by omega) (by omega)]
  simp
/-- Bytes, as numbers. -/
def Byt (l : List Int) : Prop := ∀ x ∈ l, 0 ≤ x ∧ x ≤ 255
theorem Byt.get {l : List Int} (h : Byt l) (j : Nat) : 0 ≤ l.getD j 0 ∧ l.getD j 0 ≤ 255 := by
  rw [List.getD_eq_getElem?_getD]
  by_cases hj : j < l.length
  · rw [List.getElem?_eq_getElem hj]; exact h _ (List.getElem_mem hj)
  · rw [List.getElem?_eq_none (by omega)]; exact ⟨by decide, by decide⟩
/-- Rows of two kinds of elements lie apart. -/
theorem own_apart {w : World} {b b' n n' s s' : Nat} {e e' : TypeId} {v v' : Value} {xs xs' : List Value} (h : w.ownsRow b e s v n xs) (h' : w.ownsRow b' e' s' v' n' xs') (hne : e ≠ e') : v.ownBlock = none ∨ v.ownBlock ≠ v'.ownBlock := by
  rcases h.2 with ⟨rfl, _⟩ | ⟨g, cap, cur, rfl, _, hg, _⟩
  · exact .inl rfl
  · refine .inr fun he => ?_
    rcases h'.2 with ⟨rfl, _⟩ | ⟨g', cap', cur', rfl, _, hg', _⟩
    · simp [Value.ownBlock] at he
    · have : g = g' := by simpa [Value.ownBlock] using he
      subst this
      rw [hg] at hg'
      simp only [Option.some.injEq, Obj.cells.injEq] at hg'
      exact hne hg'.2.1
/-- A list of rows, all the call's own. -/
def OwnE (w : World) (base : Nat) (v : Value) (ls : List (List Int)) : Prop :=
  ∃ vs : List Value, vs.length = ls.length ∧ w.ownsRow base 23 1 v ls.length vs ∧ ∀ j, j < ls.length → OwnB w base (vs.getD j (.bool false)) (ls.getD j [])
theorem OwnE.own {w : World} {base : Nat} {v : Value} {ls : List (List Int)} (h : OwnE w base v ls) : OwnL w base v ls := by
  obtain ⟨vs, h1, h2, h3⟩ := h
  exact ⟨vs, h1, h2, fun j hj => (h3 j hj).bv⟩
theorem OwnE.nil (w : World) (base : Nat) : OwnE w base (.slice none 0 0) [] := ⟨[], rfl, World.ownsRow_nil _ _ _ _, fun j hj => by simp at hj⟩
/-- A list of own rows that is being made. -/
def Taking (w wr : World) (v : Value) (D : List (List Int)) (vs : List Value) : Prop :=
  vs.length = D.length ∧ wr.ownsRow w.heap.size 23 1 v D.length vs ∧ ∀ j, j < D.length → OwnB wr w.heap.size (vs.getD j (.bool false)) (D.getD j [])
theorem Taking.below {w wr w1 : World} {v : Value} {D : List (List Int)} {vs : List Value} (h : Taking w wr v D vs) (hb : Below wr.heap.size wr w1) : Taking w w1 v D vs :=
  ⟨h.1, own_below h.2.1 hb, fun j hj => own_below (h.2.2 j hj) hb⟩
theorem Taking.append {w wr w1 : World} {v v1 u : Value} {D : List (List Int)} {vs : List Value} {l : List Int} (h : Taking w wr v D vs) (hu : OwnB wr w.heap.size u l) (hg : wr.grownBy w1 v.ownBlock)
    (hr : w1.ownsRow w.heap.size 23 1 v1 (D.length + 1) (vs ++ [u])) : Taking w w1 v1 (D ++ [l]) (vs ++ [u]) := by
  refine ⟨by simp [h.1], by simpa using hr, fun j hj => ?_⟩
  by_cases hlt : j < D.length
  · have e1 : (vs ++ [u]).getD j (.bool false) = vs.getD j (.bool false) := by simp [List.getD_eq_getElem?_getD, List.getElem?_append, show j < vs.length by rw [h.1]; exact hlt]
    have e2 : (D ++ [l]).getD j [] = D.getD j [] := by simp [List.getD_eq_getElem?_getD, List.getElem?_append, hlt]
    rw [e1, e2]
    exact (h.2.2 j hlt).kept hg (own_apart (h.2.2 j hlt) h.2.1 (by decide))
  · obtain rfl : j = D.length := by simp at hj; omega
    have e1 : (vs ++ [u]).getD D.length (.bool false) = u := by rw [← h.1]; simp [List.getD_eq_getElem?_getD]
    have e2 : (D ++ [l]).getD D.length [] = l := by simp [List.getD_eq_getElem?_getD]
    rw [e1, e2]
    exact hu.kept hg (own_apart hu h.2.1 (by decide))
theorem one_src {P : Program} {w : World} {tx e' t : TypeId} (hk : P.underlying tx = some (.slice e')) (v : Value) (hv : v.oneCell' = true) : Src P 1 tx (.slice (some ⟨w.heap.size, 0, none⟩) 1 1) 1 [v] (w.alloc (.cells #[v] t)) := by
  refine Src.ofSlice _ hk ⟨w.heap.size, 0, none⟩ 1 1 [v] rfl (fun j u hu => ?_) (fun u hu => by simp at hu; rw [hu]; exact hv)
  rw [Addr.add_lit, cell_of_row _ _ _ _ t (0, 0) (heap_alloc_new w _)]
  simpa using hu
theorem OwnB.one {w : World} {base : Nat} {v : Value} {l : List Int} (h : OwnB w base v l) : v.oneCell' = true := by
  obtain ⟨A, c, rfl, _⟩ := h.bv
  rfl
theorem copyCut {f : FuncId} (hcopy : ∀ (A : Option Addr) (x : List Int) (c : Nat) (w : World), Ints .u8 w A x → x.length ≤ 1073741824 → Calls Try.prog f #[.slice A x.length c] w fun e w' => ∃ v, e = .returned v ∧ OwnB w' w.heap.size v x ∧ Below w.heap.size w w')
    (A : Option Addr) (x : List Int) (c n : Nat) (w w0 : World) (hn : x.length = n) (hx : Ints .u8 w A x) (hl : n ≤ 1073741824) (hw : w0.heap.size ≤ w.heap.size) : Calls Try.prog f #[.slice A n c] w fun e w' => ∃ v, e = .returned v ∧ OwnB w' w0.heap.size v x ∧ Below w.heap.size w w' := by
  subst hn
  refine (hcopy A x c w hx hl).mono ?_
  rintro e w1 ⟨v, rfl, h1, h2⟩
  exact ⟨v, rfl, World.ownsRow.mono h1 hw, h2⟩

/-- What a taking call tells. -/
def Took (r : List (List Int) × Nat) (w : World) (e : Ending) (w' : World) : Prop :=
  ∃ v, e = .returned (.tuple #[v, .int .i64 (r.2 : Nat)]) ∧ OwnE w' w.heap.size v r.1 ∧ Below w.heap.size w w'

set_option maxHeartbeats 400000 in
theorem take_any (A : Option Addr) (xs : List Int) (c : Nat) (w : World) (hl : xs.length ≤ 268435456) (hc : xs.length ≤ c) (hb : Byt xs) (hA : Ints .u8 w A xs) :
    Calls Try.prog 13 #[.slice A xs.length c] w (Took (takeR xs) w) := by
  obtain ⟨i0, hi, hz0, hz1, hz2⟩ := info_parts (show (Try.prog.info? 23).map (fun i => (i.zero, i.size, i.bytes)) = some (some (.slice none 0 0), 1, 24) by kernel_rfl)
  have HA := Lib.hid hA
  have HY := Lib.hid hb
  clear hA hb
  generalize hf : takeR xs = R
  have HF := Lib.hid hf
  clear hf
  go_enter Try.func13, Try.ntmps13
  go_wp2
  go_loopw [4, 5] (fun vo va wr => ∃ (k : Nat) (D : List (List Int)) (vs : List Value), k ≤ xs.length ∧ va = .int .i64 k ∧ Hid (D ++ (takeR (xs.drop k)).1 = R.1 ∧ k + (takeR (xs.drop k)).2 = R.2) ∧ Hid (2 * D.length ≤ k) ∧
    Hid (Taking w wr vo D vs) ∧ Hid (Below w.heap.size w wr)) (fun _ va _ => xs.length - (intOf va).toNat)
  case atStart => exact ⟨0, [], [], by omega, rfl, Lib.hid (by rw [List.drop_zero, HF.out]; simp), Lib.hid (by simp), Lib.hid ⟨rfl, World.ownsRow_nil _ _ _ _, fun j hj => by simp at hj⟩, Below.refl _ _⟩
  case round =>
    obtain ⟨k, D, vs, hk, rfl, hR, hD, ho, hb⟩ := hrel
    by_cases h2 : k + 2 ≤ xs.length
    · obtain ⟨b, off, rfl, hcx⟩ := HA.out (by intro h; rw [h] at h2; simp at h2)
      have hc0 := (hb.out.cell (World.block_lt_of_cell? w _ (hcx k (by omega)))).trans (hcx k (by omega))
      have hc1 := (hb.out.cell (World.block_lt_of_cell? w _ (hcx (k + 1) (by omega)))).trans (hcx (k + 1) (by omega))
      have hy0 := HY.out.get k
      have hy1 := HY.out.get (k + 1)
      have HG := Lib.hid (show (xs.drop k).getD 0 0 = xs.getD k 0 ∧ (xs.drop k).getD 1 0 = xs.getD (k + 1) 0 by simp [List.getD_eq_getElem?_getD])
      clear hcx
      generalize xs.getD k 0 = x at hc0 hy0 HG
      generalize xs.getD (k + 1) 0 = y at hc1 hy1 HG
      have hor := or_byte' x y hy0.1 hy0.2 hy1.1 hy1.2
      have hnb : 256 * x.toNat + y.toNat ≤ 65535 := by omega
      have hxy : Hid (256 * ((xs.drop k).getD 0 0).toNat + ((xs.drop k).getD 1 0).toNat = 256 * x.toNat + y.toNat) := by rw [HG.out.1, HG.out.2]; exact rfl
      generalize 256 * x.toNat + y.toNat = n at hor hnb hxy
      have hw1 : wrap64 ((k : Int) + 1) = ((k + 1 : Nat) : Int) := by unfold wrap64; omega
      go_wp2
      go_quiet (fail)
      by_cases hn : k + 2 + n ≤ xs.length
      · have hr := takeR_one (l := xs.drop k) (n := n) (by simp; omega) hxy.out (by simp; omega)
        rw [List.drop_drop, List.drop_drop] at hr
        have HR := Lib.hid hr
        clear hr
        have hm : ((xs.drop (k + 2)).take n).length = n := by simp; omega
        have HI1 := Lib.hid (show Ints .u8 w (some ⟨b, off + (k + 2), none⟩) ((xs.drop (k + 2)).take n) from fun hne => by
          obtain ⟨b', off', he, hx⟩ := HA.out (by intro h; rw [h] at h2; simp at h2)
          simp only [Option.some.injEq, Addr.mk.injEq, and_true] at he
          obtain ⟨rfl, rfl⟩ := he
          refine ⟨_, _, rfl, fun j hj => ?_⟩
          rw [hm] at hj
          rw [Nat.add_assoc, hx (k + 2 + j) (by omega)]
          simp [List.getD_eq_getElem?_getD, hj])
        have HI2 := Lib.hid (show c = k + 2 → Ints .u8 w (some ⟨b, off, none⟩) ((xs.drop (k + 2)).take n) from fun h hne => by
          have : ((xs.drop (k + 2)).take n) = [] := List.eq_nil_of_length_eq_zero (by rw [hm]; omega)
          exact absurd this hne)
        have HM := Lib.hid hm
        clear hm
        generalize (xs.drop (k + 2)).take n = m at HI1 HI2 HM HR
        have hDn : (D.length : Int) ≤ 134217728 := by have := hD.out; omega
        have HC1 := Lib.hid (fun c' => copyCut clone_any (some ⟨b, off + (k + 2), none⟩) m c' n (wr.drewN nq) w HM.out (HI1.out.below (below_drewN hb.out nq)) (by omega) hb.out.size)
        have HC2 := Lib.hid (fun c' (h : c = k + 2) => copyCut clone_any (some ⟨b, off, none⟩) m c' n (wr.drewN nq) w HM.out ((HI2.out h).below (below_drewN hb.out nq)) (by omega) hb.out.size)
        by_cases hck : c = k + 2
        · subst hck
          go_wp2_with (first
            | (go_at_call 24; refine (HC2.out _ rfl).mono ?_; rintro e w1 ⟨v1, rfl, ho1, hb1⟩; obtain ⟨A1, c1, rfl, _, _⟩ := ho1.bv; have HB1 := Lib.hid (below_then (below_drewN hb.out nq) hb1); have HT1 := Lib.hid ((ho.out.below (below_drewN (Below.refl _ _) nq)).below hb1); have HO1 := Lib.hid ho1; clear ho1 hb1)
            | (at_builtin; refine wp_append_src (w0 := w) w.heap.size 1 24 (.tmp 32) (.tmp 42) 22 22 23 rfl rfl Try.underlying22 hi hz0 hz1 hz2 rfl (by decide) (HT1.out.below ((Below.refl _ w1).alloc (Nat.le_refl _) _)).2.1 rfl (one_src (P := Try.prog) Try.underlying22 (.slice A1 m.length c1) rfl) rfl (by unfold maxLen; omega) (by omega) (HB1.out.alloc HB1.out.size _) (by have := HB1.out.size; simp; omega) (Nat.le_refl _) ?_; intro v2 w2 ho2 hb2 hg2 _; have HT2 := Lib.hid ((HT1.out.below ((Below.refl _ w1).alloc (Nat.le_refl _) _)).append (own_below HO1.out ((Below.refl _ w1).alloc (Nat.le_refl _) _)) hg2 ho2); have HB2 := Lib.hid hb2; clear ho2 hb2 hg2))
          all_goals
            go_roundw
            case rel =>
              refine ⟨k + (2 + n), D ++ [m], vs ++ [.slice A1 m.length c1], by omega, by go_num, Lib.hid ?_, Lib.hid ?_, HT2, HB2⟩
              · have h1 := hR.out
                rw [HR.out] at h1
                refine ⟨by rw [← h1.1]; simp, by rw [← h1.2]; simp; omega⟩
              · have := hD.out; simp; omega
            case measure => simp [intOf]; omega
        · skip
          go_wp2_with (first
            | (go_at_call 24; refine (HC1.out _).mono ?_; rintro e w1 ⟨v1, rfl, ho1, hb1⟩; obtain ⟨A1, c1, rfl, _, _⟩ := ho1.bv; have HB1 := Lib.hid (below_then (below_drewN hb.out nq) hb1); have HT1 := Lib.hid ((ho.out.below (below_drewN (Below.refl _ _) nq)).below hb1); have HO1 := Lib.hid ho1; clear ho1 hb1)
            | (at_builtin; refine wp_append_src (w0 := w) w.heap.size 1 24 (.tmp 32) (.tmp 42) 22 22 23 rfl rfl Try.underlying22 hi hz0 hz1 hz2 rfl (by decide) (HT1.out.below ((Below.refl _ w1).alloc (Nat.le_refl _) _)).2.1 rfl (one_src (P := Try.prog) Try.underlying22 (.slice A1 m.length c1) rfl) rfl (by unfold maxLen; omega) (by omega) (HB1.out.alloc HB1.out.size _) (by have := HB1.out.size; simp; omega) (Nat.le_refl _) ?_; intro v2 w2 ho2 hb2 hg2 _; have HT2 := Lib.hid ((HT1.out.below ((Below.refl _ w1).alloc (Nat.le_refl _) _)).append (own_below HO1.out ((Below.refl _ w1).alloc (Nat.le_refl _) _)) hg2 ho2); have HB2 := Lib.hid hb2; clear ho2 hb2 hg2))
          all_goals
            go_roundw
            case rel =>
              refine ⟨k + (2 + n), D ++ [m], vs ++ [.slice A1 m.length c1], by omega, by go_num, Lib.hid ?_, Lib.hid ?_, HT2, HB2⟩
              · have h1 := hR.out
                rw [HR.out] at h1
                refine ⟨by rw [← h1.1]; simp, by rw [← h1.2]; simp; omega⟩
              · have := hD.out; simp; omega
            case measure => simp [intOf]; omega
      · have hr := takeR_lack (l := xs.drop k) (by simp; omega) (by rw [hxy.out]; simp; omega)
        have HR := Lib.hid hr
        clear hr
        go_wp2
        go_ret2
        have h1 := hR.out
        rw [HR.out] at h1
        have hRR : R = (D, k) := by rw [← Prod.eta R, ← h1.1, ← h1.2]; simp
        subst hRR
        exact ⟨u4, rfl, ⟨vs, ho.out.below (below_drewN (Below.refl _ _) nq)⟩, below_drewN hb.out nq⟩
    · have hr := takeR_short (l := xs.drop k) (by simp; omega)
      have HR := Lib.hid hr
      clear hr
      go_wp2
      go_ret2
      have h1 := hR.out
      rw [HR.out] at h1
      have hRR : R = (D, k) := by rw [← Prod.eta R, ← h1.1, ← h1.2]; simp
      subst hRR
      exact ⟨u4, rfl, ⟨vs, ho.out⟩, hb.out⟩

set_option maxHeartbeats 400000 in
theorem refTake_any (A : Option Addr) (xs : List Int) (c : Nat) (w : World) (hl : xs.length ≤ 268435456) (hc : xs.length ≤ c) (hb : Byt xs) (hA : Ints .u8 w A xs) :
    Calls Try.prog 14 #[.slice A xs.length c] w (Took (takeR xs) w) := by
  obtain ⟨i0, hi, hz0, hz1, hz2⟩ := info_parts (show (Try.prog.info? 23).map (fun i => (i.zero, i.size, i.bytes)) = some (some (.slice none 0 0), 1, 24) by kernel_rfl)
  have HA := Lib.hid hA
  have HY := Lib.hid hb
  clear hA hb
  generalize hf : takeR xs = R
  have HF := Lib.hid hf
  clear hf
  go_enter Try.func14, Try.ntmps14
  go_wp2
  go_loopw [4, 5] (fun vo va wr => ∃ (k : Nat) (D : List (List Int)) (vs : List Value), k ≤ xs.length ∧ va = .int .i64 k ∧ Hid (D ++ (takeR (xs.drop k)).1 = R.1 ∧ k + (takeR (xs.drop k)).2 = R.2) ∧ Hid (2 * D.length ≤ k) ∧
    Hid (Taking w wr vo D vs) ∧ Hid (Below w.heap.size w wr)) (fun _ va _ => xs.length - (intOf va).toNat)
  case atStart => exact ⟨0, [], [], by omega, rfl, Lib.hid (by rw [List.drop_zero, HF.out]; simp), Lib.hid (by simp), Lib.hid ⟨rfl, World.ownsRow_nil _ _ _ _, fun j hj => by simp at hj⟩, Below.refl _ _⟩
  case round =>
    obtain ⟨k, D, vs, hk, rfl, hR, hD, ho, hb⟩ := hrel
    by_cases h2 : k + 2 ≤ xs.length
    · obtain ⟨b, off, rfl, hcx⟩ := HA.out (by intro h; rw [h] at h2; simp at h2)
      have hc0 := (hb.out.cell (World.block_lt_of_cell? w _ (hcx k (by omega)))).trans (hcx k (by omega))
      have hc1 := (hb.out.cell (World.block_lt_of_cell? w _ (hcx (k + 1) (by omega)))).trans (hcx (k + 1) (by omega))
      have hy0 := HY.out.get k
      have hy1 := HY.out.get (k + 1)
      have HG := Lib.hid (show (xs.drop k).getD 0 0 = xs.getD k 0 ∧ (xs.drop k).getD 1 0 = xs.getD (k + 1) 0 by simp [List.getD_eq_getElem?_getD])
      clear hcx
      generalize xs.getD k 0 = x at hc0 hy0 HG
      generalize xs.getD (k + 1) 0 = y at hc1 hy1 HG
      have hor := or_byte' x y hy0.1 hy0.2 hy1.1 hy1.2
      have hnb : 256 * x.toNat + y.toNat ≤ 65535 := by omega
      have hxy : Hid (256 * ((xs.drop k).getD 0 0).toNat + ((xs.drop k).getD 1 0).toNat = 256 * x.toNat + y.toNat) := by rw [HG.out.1, HG.out.2]; exact rfl
      generalize 256 * x.toNat + y.toNat = n at hor hnb hxy
      have hw1 : wrap64 ((k : Int) + 1) = ((k + 1 : Nat) : Int) := by unfold wrap64; omega
      go_wp2
      go_quiet (fail)
      by_cases hn : k + 2 + n ≤ xs.length
      · have hr := takeR_one (l := xs.drop k) (n := n) (by simp; omega) hxy.out (by simp; omega)
        rw [List.drop_drop, List.drop_drop] at hr
        have HR := Lib.hid hr
        clear hr
        have hm : ((xs.drop (k + 2)).take n).length = n := by simp; omega
        have HI1 := Lib.hid (show Ints .u8 w (some ⟨b, off + (k + 2), none⟩) ((xs.drop (k + 2)).take n) from fun hne => by
          obtain ⟨b', off', he, hx⟩ := HA.out (by intro h; rw [h] at h2; simp at h2)
          simp only [Option.some.injEq, Addr.mk.injEq, and_true] at he
          obtain ⟨rfl, rfl⟩ := he
          refine ⟨_, _, rfl, fun j hj => ?_⟩
          rw [hm] at hj
          rw [Nat.add_assoc, hx (k + 2 + j) (by omega)]
          simp [List.getD_eq_getElem?_getD, hj])
        have HI2 := Lib.hid (show c = k + 2 → Ints .u8 w (some ⟨b, off, none⟩) ((xs.drop (k + 2)).take n) from fun h hne => by
          have : ((xs.drop (k + 2)).take n) = [] := List.eq_nil_of_length_eq_zero (by rw [hm]; omega)
          exact absurd this hne)
        have HM := Lib.hid hm
        clear hm
        generalize (xs.drop (k + 2)).take n = m at HI1 HI2 HM HR
        have hDn : (D.length : Int) ≤ 134217728 := by have := hD.out; omega
        have HC1 := Lib.hid (fun c' => copyCut copy_any (some ⟨b, off + (k + 2), none⟩) m c' n (wr.drewN nq) w HM.out (HI1.out.below (below_drewN hb.out nq)) (by omega) hb.out.size)
        have HC2 := Lib.hid (fun c' (h : c = k + 2) => copyCut copy_any (some ⟨b, off, none⟩) m c' n (wr.drewN nq) w HM.out ((HI2.out h).below (below_drewN hb.out nq)) (by omega) hb.out.size)
        by_cases hck : c = k + 2
        · subst hck
          go_wp2_with (first
            | (go_at_call 10; refine (HC2.out _ rfl).mono ?_; rintro e w1 ⟨v1, rfl, ho1, hb1⟩; obtain ⟨A1, c1, rfl, _, _⟩ := ho1.bv; have HB1 := Lib.hid (below_then (below_drewN hb.out nq) hb1); have HT1 := Lib.hid ((ho.out.below (below_drewN (Below.refl _ _) nq)).below hb1); have HO1 := Lib.hid ho1; clear ho1 hb1)
            | (at_builtin; refine wp_append_src (w0 := w) w.heap.size 1 24 (.tmp 32) (.tmp 42) 22 22 23 rfl rfl Try.underlying22 hi hz0 hz1 hz2 rfl (by decide) (HT1.out.below ((Below.refl _ w1).alloc (Nat.le_refl _) _)).2.1 rfl (one_src (P := Try.prog) Try.underlying22 (.slice A1 m.length c1) rfl) rfl (by unfold maxLen; omega) (by omega) (HB1.out.alloc HB1.out.size _) (by have := HB1.out.size; simp; omega) (Nat.le_refl _) ?_; intro v2 w2 ho2 hb2 hg2 _; have HT2 := Lib.hid ((HT1.out.below ((Below.refl _ w1).alloc (Nat.le_refl _) _)).append (own_below HO1.out ((Below.refl _ w1).alloc (Nat.le_refl _) _)) hg2 ho2); have HB2 := Lib.hid hb2; clear ho2 hb2 hg2))
          all_goals
            go_roundw
            case rel =>
              refine ⟨k + (2 + n), D ++ [m], vs ++ [.slice A1 m.length c1], by omega, by go_num, Lib.hid ?_, Lib.hid ?_, HT2, HB2⟩
              · have h1 := hR.out
                rw [HR.out] at h1
                refine ⟨by rw [← h1.1]; simp, by rw [← h1.2]; simp; omega⟩
              · have := hD.out; simp; omega
            case measure => simp [intOf]; omega
        · skip
          go_wp2_with (first
            | (go_at_call 10; refine (HC1.out _).mono ?_; rintro e w1 ⟨v1, rfl, ho1, hb1⟩; obtain ⟨A1, c1, rfl, _, _⟩ := ho1.bv; have HB1 := Lib.hid (below_then (below_drewN hb.out nq) hb1); have HT1 := Lib.hid ((ho.out.below (below_drewN (Below.refl _ _) nq)).below hb1); have HO1 := Lib.hid ho1; clear ho1 hb1)
            | (at_builtin; refine wp_append_src (w0 := w) w.heap.size 1 24 (.tmp 32) (.tmp 42) 22 22 23 rfl rfl Try.underlying22 hi hz0 hz1 hz2 rfl (by decide) (HT1.out.below ((Below.refl _ w1).alloc (Nat.le_refl _) _)).2.1 rfl (one_src (P := Try.prog) Try.underlying22 (.slice A1 m.length c1) rfl) rfl (by unfold maxLen; omega) (by omega) (HB1.out.alloc HB1.out.size _) (by have := HB1.out.size; simp; omega) (Nat.le_refl _) ?_; intro v2 w2 ho2 hb2 hg2 _; have HT2 := Lib.hid ((HT1.out.below ((Below.refl _ w1).alloc (Nat.le_refl _) _)).append (own_below HO1.out ((Below.refl _ w1).alloc (Nat.le_refl _) _)) hg2 ho2); have HB2 := Lib.hid hb2; clear ho2 hb2 hg2))
          all_goals
            go_roundw
            case rel =>
              refine ⟨k + (2 + n), D ++ [m], vs ++ [.slice A1 m.length c1], by omega, by go_num, Lib.hid ?_, Lib.hid ?_, HT2, HB2⟩
              · have h1 := hR.out
                rw [HR.out] at h1
                refine ⟨by rw [← h1.1]; simp, by rw [← h1.2]; simp; omega⟩
              · have := hD.out; simp; omega
            case measure => simp [intOf]; omega
      · have hr := takeR_lack (l := xs.drop k) (by simp; omega) (by rw [hxy.out]; simp; omega)
        have HR := Lib.hid hr
        clear hr
        go_wp2
        go_ret2
        have h1 := hR.out
        rw [HR.out] at h1
        have hRR : R = (D, k) := by rw [← Prod.eta R, ← h1.1, ← h1.2]; simp
        subst hRR
        exact ⟨u4, rfl, ⟨vs, ho.out.below (below_drewN (Below.refl _ _) nq)⟩, below_drewN hb.out nq⟩
    · have hr := takeR_short (l := xs.drop k) (by simp; omega)
      have HR := Lib.hid hr
      clear hr
      go_wp2
      go_ret2
      have h1 := hR.out
      rw [HR.out] at h1
      have hRR : R = (D, k) := by rw [← Prod.eta R, ← h1.1, ← h1.2]; simp
      subst hRR
      exact ⟨u4, rfl, ⟨vs, ho.out⟩, hb.out⟩

end Go.Proofs.Ytkcffggjggedjaa
