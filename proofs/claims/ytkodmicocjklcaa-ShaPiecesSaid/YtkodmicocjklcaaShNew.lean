/- sha.New, Len, Copy, rhzref8.All: what the calls come to. -/
import Derived.Test.YtkodmicocjklcaaShFrA
import Derived.Test.YtkodmicocjklcaaShMix
namespace Go.Proofs.Ytkodmicocjklcaa
open Go.RowKit

def tot (ls : List (List Int)) : Nat := (ls.map List.length).sum
theorem tot_cons (x : List Int) (ls : List (List Int)) : tot (x :: ls) = x.length + tot ls := by simp [tot]
theorem flat_len (ls : List (List Int)) : ls.flatten.length = tot ls := by simp [tot, List.length_flatten]
theorem stCells_size {H : List (BitVec 64)} (hH : H.length = 8) (v : Value) (n : Int) : (stCells H v n).size = 10 := by simp [stCells, us, hH]
theorem stCells_one (H : List (BitVec 64)) (A : Option Addr) (m c : Nat) (n : Int) : (stCells H (.slice A m c) n).all (·.oneCell') = true := by simp [stCells, us, U, Value.oneCell']

set_option maxRecDepth 20000 in
set_option maxHeartbeats 1000000 in
theorem new_any (w : World) : Calls Try.prog 12 #[] w fun e w' => ∃ g, e = .returned (.pointer (some ⟨g, 0, none⟩)) ∧ w.heap.size ≤ g ∧ St w' g beginL (.slice none 0 0) 0 ∧ Below w.heap.size w w' := by
  go_enter Try.func12, Try.ntmps12
  go_wp2_with (first
    | (go_at_call 22; refine (begin_any _).mono ?_; rintro e w1 ⟨rfl, hb1⟩; have HB1 := Lib.hid hb1; clear hb1)
    | (refine wpList_build_is rfl 47 _ rfl (stCells beginL (.slice none 0 0) 0) (by kernel_rfl) ?_))
  go_ret
  exact ⟨_, rfl, HB1.out.size, heap_alloc_new w1 _, HB1.out.alloc HB1.out.size _⟩

set_option maxHeartbeats 400000 in
theorem len_any (g : Nat) (w : World) (H : List (BitVec 64)) (left : Value) (n : Int) (hH : H.length = 8) (hg : St w g H left n) : Calls Try.prog 16 #[.pointer (some ⟨g, 0, none⟩)] w fun e w' => e = .returned (.int .i64 n) ∧ w = w' := by
  have hc := hg.count hH
  clear hg hH
  go_enter Try.func16, Try.ntmps16
  go_wp2
  go_ret
  exact ⟨rfl, rfl⟩

set_option maxRecDepth 20000 in
set_option maxHeartbeats 1000000 in
theorem copyState_any (g : Nat) (A : Option Addr) (L : List Int) (c : Nat) (w : World) (H : List (BitVec 64)) (n : Int) (hH : H.length = 8) (hg : St w g H (.slice A L.length c) n) (hL : L.length ≤ 1073741824) (hA : Ints .u8 w A L) :
    Calls Try.prog 15 #[.pointer (some ⟨g, 0, none⟩)] w fun e w' => ∃ v, e = .returned (.pointer (some ⟨w.heap.size, 0, none⟩)) ∧ St w' w.heap.size H v n ∧ OwnB w' (w.heap.size + 1) v L ∧ Below w.heap.size w w' := by
  have hz := fun w => (show (zeroValue 47).run Try.prog w = .ok (.agg (stCells (List.replicate 8 0) (.slice none 0 0) 0)) w by kernel_rfl)
  have HSZ := Lib.hid (show (Try.prog.info? 47).map (·.size) = some (stCells H (.slice A L.length c) n).size by rw [stCells_size hH]; kernel_rfl)
  have HG := Lib.hid hg
  have HA := Lib.hid hA
  have HH := Lib.hid hH
  have hlt : g < w.heap.size := (Array.getElem?_eq_some_iff.1 hg).1
  clear hg hA hH
  go_enter Try.func15, Try.ntmps15
  go_wp2_with (first
    | (refine wpList_load_row rfl 47 (.tmp 5) rfl g rfl 47 (stCells H (.slice A L.length c) n) (0, 0) _ HG.out Try.underlying47 rfl HSZ.out ?_)
    | (refine wpList_store_row rfl 47 (.tmp 3) (.tmp 6) rfl w.heap.size (stCells H (.slice A L.length c) n) rfl rfl 47 (stCells (List.replicate 8 0) (.slice none 0 0) 0) (heap_alloc_new w _) HSZ.out (by rw [stCells_size HH.out, stCells_size rfl]) (stCells_one _ _ _ _ _) ?_; rw [World.setRow_alloc_new];
       have h2 := Lib.hid ((Below.refl w.heap.size w).alloc (Nat.le_refl _) (.cells (stCells H (.slice A L.length c) n) 47));
       have h3 := Lib.hid (show St (w.alloc (.cells (stCells H (.slice A L.length c) n) 47)) w.heap.size H (.slice A L.length c) n from heap_alloc_new w _);
       have h4 := Lib.hid (show St (w.alloc (.cells (stCells H (.slice A L.length c) n) 47)) g H (.slice A L.length c) n from blk_alloc HG.out _);
       have h6 := Lib.hid (show (w.alloc (.cells (stCells H (.slice A L.length c) n) 47)).heap.size = w.heap.size + 1 by simp);
       have hcl := h4.out.left HH.out;
       clear hz HSZ;
       generalize w.alloc (.cells (stCells H (.slice A L.length c) n) 47) = w2 at h2 h3 h4 h6 hcl ⊢)
    | (go_at_call 24; refine (clone_any A L c _ (HA.out.below h2.out) hL).mono ?_; rintro e w8 ⟨v8, rfl, ho8, hb8⟩; have h8 := Lib.hid (blk_below h3.out hb8); have hf8 := St.free (blk_below h3.out hb8) 8; obtain ⟨A8, c8, hv8, _, _⟩ := ho8.bv; subst hv8; have HO8 := Lib.hid ho8; have HB8 := Lib.hid (below_then h2.out hb8); have hcl8 := St.left (blk_below h3.out hb8) HH.out; clear hcl ho8 hb8))
  go_ret
  have hne : (Value.slice A8 L.length c8).ownBlock ≠ some w.heap.size := fun e => by
    have := own_base HO8.out _ e
    rw [h6.out] at this; omega
  refine ⟨_, rfl, St.putLeft h8.out HH.out _, ?_, HB8.out.setCell (Nat.le_refl _) _⟩
  have h9 := HO8.out
  rw [h6.out] at h9
  exact own_set h9 h8.out (by decide) 8 _

set_option maxHeartbeats 1000000 in
theorem all_any (A : Option Addr) (ls : List (List Int)) (c : Nat) (w : World) (hl : ls.length ≤ 1000000) (ht : tot ls ≤ 1073741824) (hA : Rows w A ls) :
    Calls Try.prog 8 #[.slice A ls.length c] w fun e w' => ∃ v, e = .returned v ∧ OwnB w' w.heap.size v ls.flatten ∧ Below w.heap.size w w' := by
  obtain ⟨i0, hi, hz0, hz1, hz2⟩ := info_parts (show (Try.prog.info? 5).map (fun i => (i.zero, i.size, i.bytes)) = some (some (.int .u8 0), 1, 1) by kernel_rfl)
  have HA := Lib.hid hA
  generalize hf : ls.flatten = R
  have HF := Lib.hid (And.intro hf trivial)
  have hR : R.length ≤ 1073741824 := by rw [← hf, flat_len]; exact ht
  clear hA hf ht
  go_enter Try.func8, Try.ntmps8
  go_wp2
  go_loopw [3, 4] (fun vo vi wr => ∃ (k : Nat) (L : List Int), k ≤ ls.length ∧ vi = .int .i64 k ∧ Hid (L ++ (ls.drop k).flatten = R ∧ True) ∧ Hid (wr.ownsRow w.heap.size 5 1 vo L.length (ints .u8 L)) ∧ Hid (Below w.heap.size w wr)) (fun _ vi _ => ls.length - (intOf vi).toNat)
  case atStart => exact ⟨0, [], by omega, rfl, Lib.hid ⟨by simpa using HF.out.1, trivial⟩, World.ownsRow_nil _ _ _ _, Below.refl _ _⟩
  case round =>
    obtain ⟨k, L, hk, rfl, hL, ho, hb⟩ := hrel
    by_cases hlt : k < ls.length
    · obtain ⟨b1, o1, A', c', rfl, hcw, _, hi1⟩ := HA.out.look hlt
      have hc := (hb.out.cell (World.block_lt_of_cell? w _ hcw)).trans hcw
      have HI := Lib.hid hi1
      have hd := congrArg List.flatten (drop_get [] ls hlt)
      rw [List.flatten_cons] at hd
      have hX2 := hL.out.1
      rw [hd] at hX2
      have hLX := congrArg List.length hX2
      generalize ls.getD k [] = x at hc HI hX2 hLX
      have hLx : L.length + x.length ≤ 1073741824 := by simp at hLX; omega
      have HX2 := Lib.hid (And.intro hX2 trivial)
      clear hi1 hcw hd hX2 hLX
      go_wp2_with (at_builtin; refine wp_append_src (w0 := w) w.heap.size 1 1 (.tmp 11) (.tmp 15) 25 25 5 rfl rfl Try.underlying25 hi hz0 hz1 hz2 rfl (by decide) ho.out rfl (Ints.src (P := Try.prog) (HI.out.below hb.out) Try.underlying25 c') rfl (by simp [maxLen]; omega) (by simp; omega) hb.out hb.out.size (Nat.le_refl _) ?_; intro v3 w3 ho3 hb3 _ _; rw [ints_append] at ho3; have HO3 := Lib.hid ho3; have HB3 := Lib.hid hb3; clear ho3 hb3)
      go_roundw
      case rel => exact ⟨k + 1, L ++ x, by omega, by go_num, Lib.hid ⟨by rw [← HX2.out.1]; simp, trivial⟩, Lib.hid (by have := HO3.out; simpa using this), HB3⟩
      case measure => simp [intOf]; omega
    · obtain rfl : k = ls.length := by omega
      go_wp2
      go_ret
      have h1 := hL.out.1
      rw [List.drop_eq_nil_of_le (Nat.le_refl _)] at h1
      obtain rfl : L = R := by simpa using h1
      exact ⟨_, rfl, ho.out, hb.out⟩
end Go.Proofs.Ytkodmicocjklcaa
