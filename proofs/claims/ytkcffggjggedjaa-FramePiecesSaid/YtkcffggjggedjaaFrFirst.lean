/- rhzlaw7.first answers true. -/
import Derived.Test.YtkcffggjggedjaaFrB
import Derived.Test.YtkcffggjggedjaaFrC
import Derived.Lib.SlBytesConst
namespace Go.Proofs.Ytkcffggjggedjaa
open Go.RowKit

theorem rows_one {w : World} {g : Nat} {v : Value} {t : TypeId} {l : List Int} (h : w.heap[g]? = some (.cells #[v] t)) (hv : BV w v l) : Rows w (some ⟨g, 0, none⟩) [l] := fun _ => by
  refine ⟨g, 0, rfl, fun j hj => ?_⟩
  obtain rfl : j = 0 := by simp at hj; exact hj
  exact ⟨v, by rw [cell_of_row w g _ _ t (0, 0) h]; rfl, hv⟩
theorem ints_blk {k : IntKind} {w : World} {g : Nat} {t : TypeId} {q : Nat × Nat} {l : List Int} (h : w.heap[g]? = some (.cells (l.map (Value.int k)).toArray t q)) : Ints k w (some ⟨g, 0, none⟩) l := fun _ => by
  refine ⟨g, 0, rfl, fun j hj => ?_⟩
  rw [cell_of_row _ _ _ _ t q h]
  simp [hj, List.getD_eq_getElem?_getD]
theorem byt_cons {a : Int} {l : List Int} (h0 : 0 ≤ a) (h1 : a ≤ 255) (h : Byt l) : Byt (a :: l) := fun x hx => by
  rcases List.mem_cons.1 hx with rfl | hx
  · exact ⟨h0, h1⟩
  · exact h x hx
theorem byt_nil : Byt [] := fun x hx => by simp at hx

set_option maxHeartbeats 1000000 in
theorem first_any (w : World) : Calls Try.prog 8 #[] w fun e w' => e = .returned (.bool true) ∧ Below w.heap.size w w' := by
  obtain ⟨i0, hi, hz0, hz1, hz2⟩ := info_parts (show (Try.prog.info? 5).map (fun i => (i.zero, i.size, i.bytes)) = some (some (.int .u8 0), 1, 1) by kernel_rfl)
  have HF := Lib.hid (show framesF [] [[97, 98]] = ([0, 2, 97, 98], 0) by decide)
  have HT := Lib.hid (show takeR ([0, 2, 97, 98] ++ [0]) = ([[97, 98]], 4) by
    simp only [List.cons_append, List.nil_append]
    rw [takeR, if_pos (by decide), show ([97, 98, 0] : List Int).drop (256 * (0 : Int).toNat + (2 : Int).toNat) = [0] by decide, takeR]; rfl)
  have HB8 := Lib.hid (show Byt ([0, 2, 97, 98] ++ [0]) from byt_cons (by decide) (by decide) (byt_cons (by decide) (by decide) (byt_cons (by decide) (by decide) (byt_cons (by decide) (by decide) (byt_cons (by decide) (by decide) byt_nil)))))
  have kc := fun (w : World) (C : Array Value) (n c : Nat) => Lib.run_convert_bytes_const (P := Try.prog) w 23 5 C n c Try.underlying23 Try.underlying5
  have HBA := Lib.hid (fun o1 o2 => (((Below.refl w.heap.size w).alloc (Nat.le_refl _) o1).alloc (by simp) o2 : Below w.heap.size w ((w.alloc o1).alloc o2)))
  have HR1 := Lib.hid (fun (q : Nat × Nat) => rows_one (w := (w.alloc (.cells #[.int .u8 97, .int .u8 98] 5 q)).alloc (.cells #[.slice (some ⟨w.heap.size, 0, none⟩) 2 2] 23)) (g := w.heap.size + 1) (t := 23) (l := [97, 98]) (by
    have := heap_alloc_new (w.alloc (.cells #[.int .u8 97, .int .u8 98] 5 q)) (.cells #[.slice (some ⟨w.heap.size, 0, none⟩) 2 2] 23)
    simpa using this) ⟨_, 2, rfl, Nat.le_refl _, (ints_blk (l := [97, 98]) (heap_alloc_new w _)).below ((Below.refl _ _).alloc (Nat.le_refl _) _)⟩)
  go_enter Try.func8, Try.ntmps8
  go_wp2_with (first
    | (go_at_call 11; refine (framePut_any _ [[97, 98]] 1 _ (by decide) (HR1.out _)).mono ?_; rw [HF.out]; rintro e w1 ⟨v1, rfl, ho1, hb1⟩; obtain ⟨A1, c1, rfl, hc1, hi1⟩ := ho1.bv; have HI1 := Lib.hid hi1; have HB1 := Lib.hid (below_then (HBA.out _ _) hb1); clear ho1 hb1 hi1)
    | (go_at_call 10; refine (copy_any A1 [0, 2, 97, 98] c1 _ HI1.out (by decide)).mono ?_; rintro e w2 ⟨v2, rfl, ho2, hb2⟩; have HO2 := Lib.hid ho2; have HI2 := Lib.hid (HI1.out.below hb2); have HB12 := Lib.hid hb2; clear ho2 hb2)
    | (at_builtin; go_must (refine wp_append_src (w0 := w1) w1.heap.size 1 1 (.tmp 14) (.tmp 15) 23 23 5 rfl rfl Try.underlying23 hi hz0 hz1 hz2 rfl (by decide) (own_below HO2.out ((Below.refl _ w2).alloc (Nat.le_refl _) _)) rfl ((ints_lit w2 .u8 5 [0]).src Try.underlying23 1) rfl (by decide) (by decide) (HB12.out.alloc HB12.out.size _) (by have := HB12.out.size; simp; omega) (Nat.le_refl _) ?_); intro v3 w3 ho3 hb3 _ _; rw [ints_append] at ho3; have ho4 : OwnB w3 w1.heap.size v3 ([0, 2, 97, 98] ++ [0]) := ho3; obtain ⟨A3, c3, rfl, hc3, hi3⟩ := ho4.bv; have HI3 := Lib.hid hi3; have HB3 := Lib.hid (below_then HB1.out hb3); have HI13 := Lib.hid (HI1.out.below hb3); clear ho3 ho4 hb3 hi3)
    | (go_at_call 13; refine (take_any A3 ([0, 2, 97, 98] ++ [0]) c3 _ (by decide) hc3 HB8.out HI3.out).mono ?_; rw [HT.out]; rintro e w4 ⟨v4, rfl, ho4, hb4⟩; obtain ⟨A4, c4, rfl, _, _⟩ := ho4.own.rows; have hcv : Sem.run Try.prog (convert 23 9 (.slice A1 4 c1)) w4 = .ok (.string ⟨#[0, 2, 97, 98]⟩) w4 := bv_str (P := Try.prog) (c := c1) Try.underlying23 Try.underlying5 Try.underlying9 (HI13.out.below hb4); have HB4 := Lib.hid (below_then HB3.out hb4); clear ho4 hb4))
  go_ret
  refine ⟨?_, HB4.out⟩
  rfl
end Go.Proofs.Ytkcffggjggedjaa
