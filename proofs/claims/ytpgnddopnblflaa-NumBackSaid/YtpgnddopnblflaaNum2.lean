/- num.Join and num.Crc: what the calls come to, as plain functions. -/
import Derived.Test.YtpgnddopnblflaaNum
namespace Go.Proofs.Ytpgnddopnblflaa
open Go.RowKit

/-! ### Join -/
def joinLoop (width : Int) : ByteArray → List Int → ByteArray × Int
  | out, [] => (out, 0)
  | out, n :: l => if (putF n width).2 = 0 then joinLoop width (out ++ (putF n width).1) l else (⟨#[]⟩, (putF n width).2)
def joinF (width : Int) (l : List Int) : ByteArray × Int := if 0 < width ∧ width ≤ 6 then joinLoop width ⟨#[]⟩ l else (⟨#[]⟩, 1)
theorem putF_size (n width : Int) : (putF n width).1.size ≤ 6 := by
  unfold putF
  split
  · split
    · rw [strOfNums_size, List.length_take]; omega
    · show (0 : Nat) ≤ 6; omega
  · show (0 : Nat) ≤ 6; omega
theorem putF_err (n width : Int) : (putF n width).2 = 0 ∨ (putF n width).2 = 1 := by
  unfold putF
  split
  · split
    · exact .inl rfl
    · exact .inr rfl
  · exact .inr rfl

set_option maxHeartbeats 400000 in
theorem join_any (width : Int) (A : Option Addr) (l : List Int) (c : Nat) (w : World) (hl : l.length ≤ 1000000) (hr : ∀ x ∈ l, x ≤ 9223372036854775807) (hA : Ints .i64 w A l) :
    Calls Try.prog 10 #[.int .i64 width, .slice A l.length c] w (TextErr (joinF width l) w) := by
  by_cases hw : 0 < width ∧ width ≤ 6
  · have hd : decide (0 < width ∧ width ≤ 6) = true := decide_eq_true hw
    have HP := Lib.hid (show joinF width l = joinLoop width ⟨#[]⟩ l from if_pos hw)
    have HL := Lib.hid hA
    have HR := Lib.hid hr
    clear hr
    go_enter Try.func10, Try.ntmps10
    go_wp2_with (go_at_call 22; refine (wide_any _ _).mono ?_; rintro e w' ⟨rfl, rfl⟩)
    go_loopw [6, 17] (fun vo vi wr => ∃ (k : Nat) (out : ByteArray), k ≤ l.length ∧ vi = .int .i64 k ∧ vo = .string out ∧ out.size ≤ 6 * k ∧ Hid (joinLoop width out (l.drop k) = joinLoop width ⟨#[]⟩ l) ∧ Below w.heap.size w wr) (fun _ vi _ => l.length - (intOf vi).toNat)
    case atStart => exact ⟨0, ⟨#[]⟩, by omega, rfl, rfl, by show (0 : Nat) ≤ 6 * 0; omega, rfl, Below.refl _ _⟩
    case round =>
      obtain ⟨k, out, hk, rfl, rfl, hz, hj, hb⟩ := hrel
      by_cases hlt : k < l.length
      · obtain ⟨b, off, rfl, hc⟩ := (HL.out.below hb) (by intro h; rw [h] at hlt; simp at hlt)
        have hc1 := hc k hlt
        have hd1 : l.drop k = l.getD k 0 :: l.drop (k + 1) := by rw [List.drop_eq_getElem_cons hlt, List.getD_eq_getElem?_getD, List.getElem?_eq_getElem hlt]; rfl
        have hx : l.getD k 0 ≤ 9223372036854775807 := HR.out _ (by rw [List.getD_eq_getElem?_getD, List.getElem?_eq_getElem hlt]; exact List.getElem_mem hlt)
        have HD := Lib.hid hd1
        clear hc hd1
        generalize l.getD k 0 = x at hc1 hx HD
        have hs6 := putF_size x width
        have hee := putF_err x width
        generalize hpf : putF x width = r at hs6 hee
        have HPF := Lib.hid hpf
        clear hpf
        by_cases he : r.2 = 0
        · have he' : (r.2 != 0) = false := by simp [he]
          go_wp2_with (go_at_call 11; refine (put_any _ _ _ hx).mono ?_; rw [HPF.out]; rintro e w' ⟨rfl, hb'⟩)
          go_roundw
          case rel => exact ⟨k + 1, out ++ r.1, by omega, by go_num, rfl, by simp; omega, Lib.hid (by rw [← hj.out, HD.out, joinLoop, HPF.out, if_pos he]), below_then hb hb'⟩
          case measure => simp [intOf]; omega
        · have he' : (r.2 != 0) = true := by simp [he]
          go_wp2_with (go_at_call 11; refine (put_any _ _ _ hx).mono ?_; rw [HPF.out]; rintro e w' ⟨rfl, hb'⟩)
          go_ret2
          exact ⟨by rw [HP.out, ← hj.out, HD.out, joinLoop, HPF.out, if_neg he]; rfl, below_then hb hb'⟩
      · obtain rfl : k = l.length := by omega
        go_wp2
        go_ret2
        exact ⟨by rw [HP.out, ← hj.out, List.drop_eq_nil_of_le (Nat.le_refl _)]; rfl, hb⟩
  · have hd : decide (0 < width ∧ width ≤ 6) = false := decide_eq_false hw
    go_enter Try.func10, Try.ntmps10
    go_wp2_with (go_at_call 22; refine (wide_any _ _).mono ?_; rintro e w' ⟨rfl, rfl⟩)
    go_ret2
    exact ⟨by rw [show joinF width l = (⟨#[]⟩, 1) from if_neg hw]; rfl, Below.refl _ _⟩

/-! ### Crc -/
/-- One bit. -/
def crcBit (q : Int) : Int := bits .xor .u32 (q / 2) (bits .and .u32 3988292384 (-bits .and .u32 q 1 % 4294967296))
def crcBits : Nat → Int → Int
  | 0, q => q
  | j + 1, q => crcBits j (crcBit q)
def crcLoop : Int → List UInt8 → Int
  | q, [] => q
  | q, c :: l => crcLoop (crcBits 8 (bits .xor .u32 q (c.toNat : Int))) l
def crcF (s : ByteArray) : Int := bits .xor .u32 (crcLoop 4294967295 s.data.toList) 4294967295
theorem bits_u32 (op : BinOp) (x y : Int) : 0 ≤ bits op .u32 x y ∧ bits op .u32 x y < 4294967296 := by
  unfold bits
  rw [IntKind.wrap_u32]; omega

set_option maxHeartbeats 400000 in
theorem crc_any (s : ByteArray) (w : World) (hs : s.size ≤ 9223372036854775807) : Calls Try.prog 12 #[.string s] w fun e w' => e = .returned (.int .u32 (crcF s)) ∧ Below w.heap.size w w' := by
  have hcb := fun (s : ByteArray) => Lib.run_convert_string_bytes (P := Try.prog) w 9 31 5 s Try.underlying9 Try.underlying31 Try.underlying5
  have hB := Lib.hid ((Below.refl w.heap.size w).trans (⟨rfl, rfl, rfl, by rw [Lib.bytesWorld_size]; omega, fun i hi => Lib.bytesWorld_at_old w 5 s i hi⟩ : Below w.heap.size w (Lib.bytesWorld w 5 s)))
  go_enter Try.func12, Try.ntmps12
  go_wp2
  clear hcb
  go_loop [3, 10] (fun vr vi => ∃ (k : Nat) (r : Int), k ≤ s.size ∧ 0 ≤ r ∧ r < 4294967296 ∧ vi = .int .i64 k ∧ vr = .int .u32 r ∧ Hid (crcLoop r (s.data.toList.drop k) = crcLoop 4294967295 s.data.toList)) (fun _ vi => s.size - (intOf vi).toNat)
  case atStart => exact ⟨0, 4294967295, by omega, by omega, by omega, rfl, rfl, rfl⟩
  case round =>
    obtain ⟨k, r, hk, h0, h1, rfl, rfl, hr⟩ := hrel
    by_cases hlt : k < s.size
    · have hc : (Lib.bytesWorld w 5 s).cell? ⟨w.heap.size, k, none⟩ = some (.int .u8 ((byteAt s k : Nat) : Int)) := Lib.bytesWorld_cell w 5 s k hlt
      have hb := byteAt_lt s k
      have HD := Lib.hid (drop_byte s k hlt)
      go_wp2
      go_loop [3, 6] (fun vr vj => ∃ (j : Nat) (q : Int), j ≤ 8 ∧ 0 ≤ q ∧ q < 4294967296 ∧ vj = .int .i64 j ∧ vr = .int .u32 q ∧ Hid (crcBits (8 - j) q = crcBits 8 (bits .xor .u32 r (byteAt s k : Nat)))) (fun _ vj => 8 - (intOf vj).toNat)
      case atStart => exact ⟨0, _, by omega, (bits_u32 _ _ _).1, (bits_u32 _ _ _).2, rfl, rfl, rfl⟩
      case round =>
        obtain ⟨j, q, hj, g0, g1, rfl, rfl, hq⟩ := hrel
        by_cases hjl : j < 8
        · go_wp2
          go_round
          case rel => exact ⟨j + 1, crcBit q, by omega, (bits_u32 _ _ _).1, (bits_u32 _ _ _).2, by go_num, rfl, (by rw [← hq.out, show 8 - j = (8 - (j + 1)) + 1 by omega]; rfl)⟩
          case measure => simp [intOf]; omega
        · obtain rfl : j = 8 := by omega
          go_wp2
          go_round
          case rel => exact ⟨k + 1, q, by omega, g0, g1, by go_num, rfl, (by rw [← hr.out, HD.out, crcLoop]; exact congrArg (fun z => crcLoop z _) hq.out)⟩
          case measure => simp [intOf]; omega
    · obtain rfl : k = s.size := by omega
      go_wp2
      go_ret
      exact ⟨by unfold crcF; rw [← hr.out, drop_byte_end s _ (Nat.le_refl _)]; rfl, hB.out⟩
end Go.Proofs.Ytpgnddopnblflaa
