/- num.Hex, and the digest of abc: what first comes to. -/
import Derived.Test.YtkodmicocjklcaaShLaw
import Derived.Lib.SlBytesConst
import Derived.Deep.QuietTactic
import Derived.BigQuiet
namespace Go.Proofs.Ytkodmicocjklcaa
open Go.RowKit

/-! ### digits -/
def hexDigit (n : Int) : Int := if 9 < n then 97 + n - 10 else 48 + n
set_option maxHeartbeats 400000 in
theorem digit_any (n : Int) (w : World) (h0 : 0 ≤ n) (h1 : n ≤ 15) : Calls Try.prog 26 #[.int .u8 n] w fun e w' => e = .returned (.int .u8 (hexDigit n)) ∧ w = w' := by
  by_cases h : 9 < n
  · have HD := Lib.hid (show hexDigit n = 97 + n - 10 from if_pos h)
    go_enter Try.func26, Try.ntmps26
    go_wp2
    go_ret
    exact ⟨by rw [HD.out]; simp, rfl⟩
  · have HD := Lib.hid (show hexDigit n = 48 + n from if_neg h)
    go_enter Try.func26, Try.ntmps26
    go_wp2
    go_ret
    exact ⟨by rw [HD.out]; simp, rfl⟩
theorem hexDigit_range {n : Int} (h0 : 0 ≤ n) (h1 : n ≤ 15) : 0 ≤ hexDigit n ∧ hexDigit n ≤ 255 := by unfold hexDigit; split <;> omega

/-! ### Hex -/
def hexList : List UInt8 → List Int
  | [] => []
  | c :: l => hexDigit ((c.toNat : Int) / 16) :: hexDigit ((c.toNat : Int) % 16) :: hexList l
theorem hexList_len : ∀ l, (hexList l).length = 2 * l.length
  | [] => rfl
  | c :: l => by simp [hexList, hexList_len l]; omega
def hexF (s : ByteArray) : ByteArray := strOfNums (hexList s.data.toList)

set_option maxHeartbeats 1000000 in
theorem hex_any (s : ByteArray) (w : World) (hs : s.size ≤ 1000000) : Calls Try.prog 17 #[.string s] w (Text (hexF s) w) := by
  obtain ⟨i0, hi, hz0, hz1, hz2⟩ := info_parts (show (Try.prog.info? 5).map (fun i => (i.zero, i.size, i.bytes)) = some (some (.int .u8 0), 1, 1) by kernel_rfl)
  have hcb := fun (W : World) (s : ByteArray) => Lib.run_convert_string_bytes (P := Try.prog) W 9 25 5 s Try.underlying9 Try.underlying25 Try.underlying5
  obtain ⟨w1, hmk, ho1, hg1⟩ := run_make_own (P := Try.prog) w w.heap.size 25 5 i0 (.int .u8 0) 1 Try.underlying25 hi hz0 hz1 .i64 .i64 (2 * s.size) (by rw [hz2]; omega) (by unfold maxLen; omega) (Nat.le_refl _)
  have hmk' : (Instr.makeSlice 25 (.int .i64 0) (.int .i64 (2 * (s.size : Int)))).run Try.prog w = .ok (.slice (some ⟨w.heap.size, 0, none⟩) 0 (2 * s.size)) w1 := by
    have e : ((2 * s.size : Nat) : Int) = 2 * (s.size : Int) := by omega
    rw [← e]; exact hmk
  have HO1 := Lib.hid ho1
  have hB1 : Below w.heap.size w w1 := (Below.refl _ _).grown hg1 (Nat.le_refl _) (fun k hk => by cases hk)
  have HB1 := Lib.hid hB1
  clear ho1 hmk hg1 hB1
  go_enter Try.func17, Try.ntmps17
  go_wp2
  clear hcb hmk'
  have HO := Lib.hid (HO1.out.kept (w' := Lib.bytesWorld w1 5 s) (row := none) ⟨rfl, rfl, rfl, by rw [Lib.bytesWorld_size]; omega, fun i hi _ => Lib.bytesWorld_at_old w1 5 s i hi⟩ (by simp [Value.ownBlock]))
  have HB := Lib.hid (below_bytes HB1.out 5 s)
  have hTt := Lib.bytesWorld_at_new w1 5 s
  have hTg := fun j h => bytesCells_get w1 5 s j h
  generalize Lib.bytesCells w1 5 s = T at hTt hTg
  generalize Lib.bytesWorld w1 5 s = w2 at HO HB hTt ⊢
  have HT := Lib.hid hTt
  have HG := Lib.hid hTg
  clear hTt hTg
  go_loopw [3, 13] (fun vo vi wr => ∃ (k : Nat) (L : List Int), k ≤ s.size ∧ vi = .int .i64 k ∧ Hid (L ++ hexList (s.data.toList.drop k) = hexList s.data.toList) ∧ Hid (L.length = 2 * k) ∧ Hid (wr.ownsRow w.heap.size 5 1 vo L.length (ints .u8 L)) ∧
      Hid (wr.heap[w1.heap.size]? = some (.cells T 5 (T.size, T.size + 1))) ∧ Hid (Below w.heap.size w wr)) (fun _ vi _ => s.size - (intOf vi).toNat)
  case atStart => exact ⟨0, [], by omega, rfl, rfl, rfl, HO, HT, HB⟩
  case round =>
    obtain ⟨k, L, hk, rfl, hL, hl, ho, ht, hb⟩ := hrel
    by_cases hlt : k < s.size
    · have hc : wr.cell? ⟨w1.heap.size, k, none⟩ = some (.int .u8 ((byteAt s k : Nat) : Int)) := by rw [cell_of_row _ _ _ _ _ _ ht.out]; exact HG.out k hlt
      have hbt := byteAt_lt s k
      have hlen : (L.length : Int) ≤ 2000000 := by have := hl.out; omega
      go_wp2_with (first
        | (go_at_call 26; refine (digit_any _ _ (by omega) (by omega)).mono ?_; rintro e w3 ⟨rfl, rfl⟩)
        | (at_builtin; refine wp_append_src (w0 := w) w.heap.size 1 1 (.tmp 17) (.tmp 24) 25 25 5 rfl rfl Try.underlying25 hi hz0 hz1 hz2 rfl (by decide) (ho.out.alloc _) rfl ((lits_lit wr .u8 5 _ _).src Try.underlying25 2) rfl (by simp [maxLen]; omega) (by simp; omega) (hb.out.alloc hb.out.size _) (by have := hb.out.size; simp; omega) (Nat.le_refl _) ?_; intro v1 w4 ho1 hb1 hg1 _; rw [ints_append] at ho1; have HO := Lib.hid ho1; have HB := Lib.hid hb1; have HT := Lib.hid (blk_grown (blk_alloc ht.out _) hg1 (own_not_text ho.out ht.out)); clear ho1 hb1 hg1))
      go_roundw
      case rel =>
        refine ⟨k + 1, L ++ [hexDigit ((byteAt s k : Nat) / 16), hexDigit ((byteAt s k : Nat) % 16)], by omega, by go_num, ?_, ?_, ?_, HT, HB⟩
        · have h1 := hL.out; rw [drop_byte s k hlt] at h1; exact Lib.hid (by rw [← h1]; simp [hexList, byteAt])
        · have := hl.out; exact Lib.hid (by simp; omega)
        · exact Lib.hid (by simpa using HO.out)
      case measure => simp [intOf]; omega
    · obtain rfl : k = s.size := by omega
      have hcv := own_str (P := Try.prog) Try.underlying25 Try.underlying5 Try.underlying9 ho.out
      go_wp2
      go_ret
      exact ⟨by unfold hexF; rw [← hL.out, drop_byte_end s _ (Nat.le_refl _)]; simp [hexList], hb.out⟩

/-! ### first -/
theorem hex_abc : hexF (strOfNums abcL) = "cb00753f45a35e8bb5a03d699ac65007272c32ab0eded1631a8b605a43ff5bed8086072ba1e7cc2358baeca134c825a7".toUTF8 := by decide +kernel

theorem ints_blk {k : IntKind} {w : World} {g : Nat} {t : TypeId} {q : Nat × Nat} {l : List Int} (h : w.heap[g]? = some (.cells (l.map (Value.int k)).toArray t q)) : Ints k w (some ⟨g, 0, none⟩) l := fun _ => by
  refine ⟨g, 0, rfl, fun j hj => ?_⟩
  rw [cell_of_row _ _ _ _ t q h]
  simp [hj, List.getD_eq_getElem?_getD]
theorem rows_two {w : World} {g : Nat} {t : TypeId} {u v : Value} {x y : List Int} (h : w.heap[g]? = some (.cells #[u, v] t)) (hu : BV w u x) (hv : BV w v y) : Rows w (some ⟨g, 0, none⟩) [x, y] := fun _ => by
  refine ⟨g, 0, rfl, fun j hj => ?_⟩
  rcases j with _ | _ | j
  · exact ⟨u, by rw [cell_of_row _ _ _ _ _ (0, 0) h]; rfl, hu⟩
  · exact ⟨v, by rw [cell_of_row _ _ _ _ _ (0, 0) h]; rfl, hv⟩
  · simp at hj; omega
def abC : Array Value := #[.int .u8 97, .int .u8 98]
set_option maxHeartbeats 2000000 in
theorem first_any (w : World) : Calls Try.prog 6 #[] w fun e w' => e = .returned (.bool true) ∧ Below w.heap.size w w' := by
  have kc := fun (w : World) (C : Array Value) (n c : Nat) => Lib.run_convert_bytes_const (P := Try.prog) w 25 5 C n c Try.underlying25 Try.underlying5
  have kc2 : ∀ (w : World) (o : Obj) (C : Array Value) (n c : Nat), (convert 25 25 (.slice (some ⟨w.heap.size + 1, 0, none⟩) n c)).run Try.prog ((w.alloc o).alloc (.cells C 5)) = .ok (.slice (some ⟨w.heap.size + 1, 0, none⟩) n c) ((w.alloc o).alloc (.cells C 5 (C.size, C.size + 1))) := fun w o C n c => by
    have h := Lib.run_convert_bytes_const (P := Try.prog) (w.alloc o) 25 5 C n c Try.underlying25 Try.underlying5
    simpa using h
  go_enter Try.func6, Try.ntmps6
  go_wp2_with (first
    | (go_at_call 9; go_loud (
       have h1 := ((Below.refl w.heap.size w).alloc (Nat.le_refl _) (.cells #[.int .u8 97, .int .u8 98] 5 (2, 3))).alloc (by simp) (.cells #[.int .u8 99] 5 (1, 2));
       have h2 := h1.alloc (by simp; omega) (.cells #[.slice (some ⟨w.heap.size, 0, none⟩) 2 2, .slice (some ⟨w.heap.size + 1, 0, none⟩) 1 1] 25);
       have hr : Rows (((w.alloc (.cells #[.int .u8 97, .int .u8 98] 5 (2, 3))).alloc (.cells #[.int .u8 99] 5 (1, 2))).alloc (.cells #[.slice (some ⟨w.heap.size, 0, none⟩) 2 2, .slice (some ⟨w.heap.size + 1, 0, none⟩) 1 1] 25)) (some ⟨w.heap.size + 1 + 1, 0, none⟩) [[97, 98], [99]] := rows_two (by have := heap_alloc_new ((w.alloc (.cells #[.int .u8 97, .int .u8 98] 5 (2, 3))).alloc (.cells #[.int .u8 99] 5 (1, 2))) (.cells #[.slice (some ⟨w.heap.size, 0, none⟩) 2 2, .slice (some ⟨w.heap.size + 1, 0, none⟩) 1 1] 25); simpa using this)
         ⟨_, 2, rfl, Nat.le_refl _, ints_blk (l := [97, 98]) (blk_alloc (blk_alloc (heap_alloc_new w _) _) _)⟩ ⟨_, 1, rfl, Nat.le_refl _, ints_blk (l := [99]) (blk_alloc (by have := heap_alloc_new (w.alloc (.cells #[.int .u8 97, .int .u8 98] 5 (2, 3))) (.cells #[.int .u8 99] 5 (1, 2)); simpa using this) _)⟩;
       refine (sum_any _ [[97, 98], [99]] 2 _ (by decide) (by decide) (fun l hl y hy => by simp at hl; rcases hl with rfl | rfl <;> simp at hy <;> omega) hr).mono ?_;
       rintro e w1 ⟨u, rfl, ho1, hb1⟩;
       rw [show ([[97, 98], [99]] : List (List Int)).flatten = [97, 98, 99] from rfl, digest_abc] at ho1;
       obtain ⟨A1, c1, hu, _, hi1⟩ := ho1.bv; subst hu;
       have hcv := bv_str (P := Try.prog) (c := c1) Try.underlying25 Try.underlying5 Try.underlying9 hi1;
       have HB1 := Lib.hid (below_then h2 hb1); clear h1 h2 hr ho1 hb1 hi1 kc kc2))
    | (go_at_call 17; refine (hex_any _ w1 (by decide)).mono ?_; rintro e w2 ⟨rfl, hb2⟩; rw [hex_abc]; have HB2 := Lib.hid (below_then HB1.out hb2); clear hb2))
  go_ret
  exact ⟨congrArg (fun b => Ending.returned (Value.bool b)) (by decide +kernel : _ = true), HB2.out⟩
end Go.Proofs.Ytkodmicocjklcaa
