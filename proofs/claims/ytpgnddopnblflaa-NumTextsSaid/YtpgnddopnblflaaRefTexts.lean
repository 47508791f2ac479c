/- rhzref1.Crc, Hex, digit and Unhex answer as num.Crc, Hex and Unhex do. -/
import Derived.Test.YtpgnddopnblflaaCrc
import Derived.Test.YtpgnddopnblflaaHex
import Derived.Deep.RegionLaw
namespace Go.Proofs.Ytpgnddopnblflaa
open Go.RowKit

/-! ### Crc -/
theorem crcBit_odd (r : BitVec 32) (h : r.getLsbD 0 = true) : bits .xor .u32 ((r.toNat : Int) / (2 : Int)) 3988292384 = crcBit (r.toNat : Int) := by
  have e1 : (r.toNat : Int) / (2 : Int) = ((r >>> 1).toNat : Int) := by
    rw [BitVec.toNat_ushiftRight, Nat.shiftRight_eq_div_pow]; omega
  rw [crcBit_eq, e1]
  unfold crcV
  rw [if_pos h]
  exact bits_xor32 (r >>> 1) 0xEDB88320#32
theorem crcBit_even (r : BitVec 32) (h : r.getLsbD 0 = false) : (r.toNat : Int) / (2 : Int) = crcBit (r.toNat : Int) := by
  have e1 : (r.toNat : Int) / (2 : Int) = ((r >>> 1).toNat : Int) := by
    rw [BitVec.toNat_ushiftRight, Nat.shiftRight_eq_div_pow]; omega
  rw [crcBit_eq, e1]
  unfold crcV
  rw [h]; simp
/-- A word of 32 bits' last bit, as the reference asks for it. -/
theorem and_one_test (q : Int) (h0 : 0 ≤ q) (h1 : q < 4294967296) : (bits .and .u32 q 1 == 1) = true ∧ bits .xor .u32 (q / 2) 3988292384 = crcBit q ∨ (bits .and .u32 q 1 == 1) = false ∧ q / 2 = crcBit q := by
  obtain ⟨n, rfl⟩ := Int.eq_ofNat_of_zero_le h0
  have e : ((BitVec.ofNat 32 n).toNat : Int) = n := by simp; omega
  have ha : bits .and .u32 (n : Int) 1 = ((BitVec.ofNat 32 n &&& 1#32).toNat : Int) := by rw [← e]; exact bits_and32 _ 1#32
  rw [ha, and_one, ← e]
  by_cases h : (BitVec.ofNat 32 n).getLsbD 0 = true
  · rw [if_pos h]
    exact .inl ⟨by decide, crcBit_odd _ h⟩
  · rw [if_neg h]
    exact .inr ⟨by decide, crcBit_even _ (by simpa using h)⟩

set_option maxHeartbeats 400000 in
theorem refCrc_any (s : ByteArray) (w : World) (hs : s.size ≤ 9223372036854775807) : Calls Try.prog 21 #[.string s] w fun e w' => e = .returned (.int .u32 (crcF s)) ∧ Below w.heap.size w w' := by
  go_enter Try.func21, Try.ntmps21
  go_wp2
  go_loop [3, 4] (fun vr vi => ∃ (k : Nat) (r : Int), k ≤ s.size ∧ 0 ≤ r ∧ r < 4294967296 ∧ vi = .int .i64 k ∧ vr = .int .u32 r ∧ Hid (crcLoop r (s.data.toList.drop k) = crcLoop 4294967295 s.data.toList)) (fun _ vi => s.size - (intOf vi).toNat)
  case atStart => exact ⟨0, 4294967295, by omega, by omega, by omega, rfl, rfl, rfl⟩
  case round =>
    obtain ⟨k, r, hk, h0, h1, rfl, rfl, hr⟩ := hrel
    by_cases hlt : k < s.size
    · have hb := byteAt_lt s k
      have HG := Lib.hid (byteAt_get s k hlt)
      have HD := Lib.hid (drop_byte s k hlt)
      have hq : s[k].toNat < 256 := UInt8.toNat_lt _
      go_wp2
      go_loop [3, 5] (fun vr vj => ∃ (j : Nat) (q : Int), j ≤ 8 ∧ 0 ≤ q ∧ q < 4294967296 ∧ vj = .int .i64 j ∧ vr = .int .u32 q ∧ Hid (crcBits (8 - j) q = crcBits 8 (bits .xor .u32 r (s[k].toNat : Nat)))) (fun _ vj => 8 - (intOf vj).toNat)
      case atStart => exact ⟨0, _, by omega, (bits_u32 _ _ _).1, (bits_u32 _ _ _).2, rfl, rfl, rfl⟩
      case round =>
        obtain ⟨j, q, hj, g0, g1, rfl, rfl, hq⟩ := hrel
        by_cases hjl : j < 8
        · rcases and_one_test q g0 g1 with ⟨ht, he⟩ | ⟨ht, he⟩
          all_goals
            have HE := Lib.hid he
            clear he
            go_wp2
            go_round
            case rel => exact ⟨j + 1, crcBit q, by omega, (bits_u32 _ _ _).1, (bits_u32 _ _ _).2, by go_num, (by rw [← HE.out]), (by rw [← hq.out, show 8 - j = (8 - (j + 1)) + 1 by omega]; rfl)⟩
            case measure => simp [intOf]; omega
        · obtain rfl : j = 8 := by omega
          go_wp2
          go_round
          case rel => exact ⟨k + 1, q, by omega, g0, g1, by go_num, rfl, (by rw [← hr.out, HD.out, crcLoop]; exact congrArg (fun z => crcLoop z _) (hq.out.trans (by rw [← HG.out]; rfl)))⟩
          case measure => simp [intOf]; omega
    · obtain rfl : k = s.size := by omega
      have HX := Lib.hid (show bits .xor .u32 IntKind.u32.max r = bits .xor .u32 r 4294967295 by
        unfold bits
        simp only [show IntKind.u32.max = 4294967295 from rfl]
        rw [BitVec.xor_comm])
      go_wp2
      go_ret
      exact ⟨by unfold crcF; rw [← hr.out, drop_byte_end s _ (Nat.le_refl _), crcLoop, ← HX.out]; rfl, Below.refl _ _⟩

/-! ### digit -/
def refValue (c : Int) : Int := if 48 ≤ c ∧ c ≤ 57 then c - 48 else if 97 ≤ c ∧ c ≤ 102 then c - 97 + 10 else -1
set_option maxHeartbeats 400000 in
theorem refDigit_any (c : Int) (w : World) (h0 : 0 ≤ c) (h1 : c ≤ 255) : Calls Try.prog 24 #[.int .u8 c] w fun e w' => e = .returned (.int .i64 (refValue c)) ∧ w = w' := by
  have HV := Lib.hid (show refValue c = if 48 ≤ c ∧ c ≤ 57 then c - 48 else if 97 ≤ c ∧ c ≤ 102 then c - 97 + 10 else -1 from rfl)
  rcases (show c < 48 ∨ (48 ≤ c ∧ c ≤ 57) ∨ (57 < c ∧ c < 97) ∨ (97 ≤ c ∧ c ≤ 102) ∨ 102 < c by omega) with h | ⟨h, h'⟩ | ⟨h, h'⟩ | ⟨h, h'⟩ | h
  all_goals
    go_enter Try.func24, Try.ntmps24
    go_wp2
    go_ret
    refine ⟨?_, rfl⟩
    rw [HV.out]
  · rw [if_neg (by omega), if_neg (by omega)]; rfl
  · rw [if_pos (by omega)]; rfl
  · rw [if_neg (by omega), if_neg (by omega)]; rfl
  · rw [if_neg (by omega), if_pos (by omega)]; rfl
  · rw [if_neg (by omega), if_neg (by omega)]; rfl

/-! ### Hex -/
theorem and15 (x : Int) (h0 : 0 ≤ x) (h1 : x < 256) : bits .and .u8 x 15 = x % 16 := by
  have h := bits_mask .u8 8 (by decide) (fun n h0 h1 => by rw [IntKind.wrap_u8]; omega) 4 (by decide) x h0 (by omega)
  exact h
theorem hexText_at (t : TypeId) {P : Program} (ht : P.underlying t = some .string) (i : Int) (h0 : 0 ≤ i) (h1 : i < 16) (w : World) :
    (Instr.index t (.string ⟨#[48, 49, 50, 51, 52, 53, 54, 55, 56, 57, 97, 98, 99, 100, 101, 102]⟩) (.int .u8 i)).run P w = .ok (.int .u8 (hexDigit i)) w := by
  rw [run_index_string w t _ .u8 i ht, dif_pos ⟨h0, h1⟩]
  obtain ⟨n, rfl⟩ := Int.eq_ofNat_of_zero_le h0
  have hn : n < 16 := by omega
  have : ∀ m : Nat, ∀ h : m < 16, (((⟨#[48, 49, 50, 51, 52, 53, 54, 55, 56, 57, 97, 98, 99, 100, 101, 102]⟩ : ByteArray)[m]'h).toNat : Int) = hexDigit m := by decide
  congr 2
  exact this n hn
set_option maxHeartbeats 1000000 in
theorem refHex_any (s : ByteArray) (w : World) (hs : s.size ≤ 1000000) : Calls Try.prog 20 #[.string s] w (Text (hexF s) w) := by
  obtain ⟨i0, hi, hz0, hz1, hz2⟩ := info_parts (show (Try.prog.info? 5).map (fun i => (i.zero, i.size, i.bytes)) = some (some (.int .u8 0), 1, 1) by kernel_rfl)
  go_enter Try.func20, Try.ntmps20
  go_wp2
  go_loopw [4, 5] (fun vo vi wr => ∃ (k : Nat) (L : List Int), k ≤ s.size ∧ vi = .int .i64 k ∧ Hid (L ++ hexList (s.data.toList.drop k) = hexList s.data.toList) ∧ Hid (L.length = 2 * k) ∧ Hid (wr.ownsRow w.heap.size 5 1 vo L.length (ints .u8 L)) ∧ Hid (Below w.heap.size w wr)) (fun _ vi _ => s.size - (intOf vi).toNat)
  case atStart => exact ⟨0, [], by omega, rfl, rfl, rfl, World.ownsRow_nil _ _ _ _, Below.refl _ _⟩
  case round =>
    obtain ⟨k, L, hk, rfl, hL, hl, ho, hb⟩ := hrel
    by_cases hlt : k < s.size
    · have hq : s[k].toNat < 256 := UInt8.toNat_lt _
      have hx1 := fun W : World => hexText_at 9 (P := Try.prog) Try.underlying9 ((s[k].toNat : Int) / 16) (by omega) (by omega) W
      have h15 := and15 (s[k].toNat : Int) (by omega) (by omega)
      have hx2 := fun W : World => hexText_at 9 (P := Try.prog) Try.underlying9 (bits .and .u8 (s[k].toNat : Int) 15) (by rw [h15]; omega) (by rw [h15]; omega) W
      have H15 := Lib.hid h15
      clear h15
      go_wp2
      have hlen : (L.length : Int) ≤ 2000000 := by have := hl.out; omega
      go_region_law (refine step_append_src (w0 := w) w.heap.size 1 1 (.tmp 12) (.tmp 25) 31 31 5 rfl rfl Try.underlying31 hi hz0 hz1 hz2 rfl (by decide) (ho.out.alloc _) (by simp [Act.eval]) ((lits_lit wr.drew .u8 5 _ _).src Try.underlying31 2) (by simp [Act.eval]) (by simp [maxLen]; omega) (by simp; omega) (hb.out.drew.alloc hb.out.size _) (by have := hb.out.size; simp; omega) (Nat.le_refl _) ?_; intro v1 w4 ho1 hb1 _ _; rw [ints_append] at ho1; have HO := Lib.hid ho1; have HB := Lib.hid hb1; clear ho1 hb1)
      all_goals
        go_wp2
        go_roundw
        case rel =>
          refine ⟨k + 1, L ++ [hexDigit ((s[k].toNat : Int) / 16), hexDigit (bits .and .u8 (s[k].toNat : Int) 15)], by omega, by go_num, ?_, ?_, ?_, HB⟩
          · have h1 := hL.out
            rw [drop_byte s k hlt] at h1
            have hg := byteAt_get s k hlt
            unfold byteAt at hg
            exact Lib.hid (by rw [← h1, H15.out, ← hg]; simp [hexList])
          · have := hl.out; exact Lib.hid (by simp; omega)
          · exact Lib.hid (by simpa using HO.out)
        case measure => simp [intOf]; omega
    · obtain rfl : k = s.size := by omega
      have hcv := own_str (P := Try.prog) Try.underlying31 Try.underlying5 Try.underlying9 ho.out
      go_wp2
      go_ret
      exact ⟨by unfold hexF; rw [← hL.out, drop_byte_end s _ (Nat.le_refl _)]; simp [hexList], hb.out⟩

/-! ### Unhex -/
theorem unhexLoop_odd : ∀ (n : Nat) (l : List UInt8) (out : List Int), l.length ≤ n → l.length % 2 = 1 → unhexLoop out l = (⟨#[]⟩, false)
  | 0, l, _, hl, ho => by omega
  | _ + 1, [], _, _, ho => by simp at ho
  | _ + 1, [_], _, _, _ => rfl
  | n + 1, a :: b :: r, out, hl, ho => by
    rw [unhexLoop]
    split
    · exact unhexLoop_odd n r _ (by simp at hl; omega) (by simp at ho; omega)
    · rfl
theorem refValue_eq (c : Int) : refValue c = if hexValue c ≤ 15 then hexValue c else -1 := by
  unfold refValue hexValue
  split
  · rw [if_pos (by omega)]
  · split
    · rw [if_pos (by omega)]
    · rw [if_neg (by omega)]

set_option maxHeartbeats 1000000 in
theorem refUnhex_any (s : ByteArray) (w : World) (hs : s.size ≤ 1000000) : Calls Try.prog 18 #[.string s] w (TextOk (unhexF s) w) := by
  obtain ⟨i0, hi, hz0, hz1, hz2⟩ := info_parts (show (Try.prog.info? 5).map (fun i => (i.zero, i.size, i.bytes)) = some (some (.int .u8 0), 1, 1) by kernel_rfl)
  rcases Nat.mod_two_eq_zero_or_one s.size with hev | hodd
  · obtain ⟨m, hm⟩ : ∃ m, s.size = 2 * m := ⟨s.size / 2, by omega⟩
    have ht : (((s.size : Int) % 2) != 0) = false := by simp; omega
    go_enter Try.func18, Try.ntmps18
    go_wp2
    go_loopw [4, 5] (fun vo vi wr => ∃ (p : Nat) (L : List Int), p ≤ s.size ∧ vi = .int .i64 p ∧ Hid (unhexLoop L (s.data.toList.drop p) = unhexF s) ∧ Hid (p % 2 = 0) ∧ Hid (L.length ≤ p) ∧ Hid (wr.ownsRow w.heap.size 5 1 vo L.length (ints .u8 L)) ∧ Hid (Below w.heap.size w wr)) (fun _ vi _ => ((s.size : Int) - intOf vi).toNat)
    case atStart => exact ⟨0, [], by omega, rfl, rfl, rfl, Lib.hid (by simp), World.ownsRow_nil _ _ _ _, Below.refl _ _⟩
    case round =>
      obtain ⟨p, L, hk, rfl, hu, hpe, hl, ho, hb⟩ := hrel
      by_cases hlt : p + 1 < s.size
      · have hk0 : p < s.size := by omega
        have q0 := byteAt_lt s p
        have q1 := byteAt_lt s (p + 1)
        have HX0 := Lib.hid (fun W : World => index_at 9 (P := Try.prog) Try.underlying9 s p hk0 p rfl W)
        have HX1 := Lib.hid (fun W : World => index_at 9 (P := Try.prog) Try.underlying9 s (p + 1) hlt ((p : Int) + 1) (by omega) W)
        have HW := Lib.hid (show IntKind.i64.wrap ((p : Int) + 1) = (p : Int) + 1 by rw [IntKind.wrap_i64]; omega)
        have HD := Lib.hid (show s.data.toList.drop p = s.data.toList.getD p 0 :: s.data.toList.getD (p + 1) 0 :: s.data.toList.drop (p + 2) by rw [drop_byte s p hk0, drop_byte s (p + 1) hlt])
        go_wp2
        have hwr := HW.out
        have hx0 := HX0.out
        have hx1 := HX1.out
        go_quiet ((go_at_call 24; exact quiet_any (refDigit_any _ _ (by omega) (by omega))))
        clear hwr hx0 hx1 HX0 HX1 HW
        have HU := Lib.hid (show unhexLoop L (s.data.toList.drop p) = if hexValue (byteAt s p : Nat) ≤ 15 ∧ hexValue (byteAt s (p + 1) : Nat) ≤ 15 then unhexLoop (L ++ [(16 : Int) * hexValue (byteAt s p : Nat) + hexValue (byteAt s (p + 1) : Nat)]) (s.data.toList.drop (p + 2)) else (⟨#[]⟩, false) by
          rw [HD.out, unhexLoop]; rfl)
        have v0 := hexValue_range (byteAt s p : Nat)
        have v1 := hexValue_range (byteAt s (p + 1) : Nat)
        rw [refValue_eq, refValue_eq]
        clear HD q0 q1
        generalize hexValue (byteAt s p : Nat) = va at v0 HU ⊢
        generalize hexValue (byteAt s (p + 1) : Nat) = vb at v1 HU ⊢
        obtain ⟨va0, va1⟩ := v0
        obtain ⟨vb0, vb1⟩ := v1
        have HO := Lib.hid (show (wr.drewN nq).ownsRow w.heap.size 5 1 u4 L.length (ints .u8 L) from ho.out)
        have HB := Lib.hid (show Below w.heap.size w (wr.drewN nq) from ⟨hb.out.os, hb.out.tape, hb.out.output, hb.out.size, hb.out.block⟩)
        clear ho hb
        generalize wr.drewN nq = w2 at HO HB ⊢
        by_cases hva : va ≤ 15
        · rw [if_pos hva]
          by_cases hvb : vb ≤ 15
          · rw [if_pos hvb]
            have hor : bits .or .i64 (va * 16) vb = 16 * va + vb := by
              rw [bits_join .i64 63 (by decide) (fun z h0 h1 => by rw [IntKind.wrap_i64]; omega) 4 (va * 16) vb (by omega) (by omega) (by omega) (by omega) (by omega) (by omega)]; omega
            have hL : (L.length : Int) ≤ 1000000 := by have := hl.out; omega
            have hr0 : 0 ≤ 16 * va + vb := by omega
            have hr1 : 16 * va + vb ≤ 255 := by omega
            go_wp2_with (at_builtin; refine wp_append_src (w0 := w) w.heap.size 1 1 (.tmp 34) (.tmp 40) 31 31 5 rfl rfl Try.underlying31 hi hz0 hz1 hz2 rfl (by decide) (HO.out.alloc _) rfl ((ints_lit w2 .u8 5 [_]).src Try.underlying31 1) rfl (by simp [maxLen]; omega) (by simp; omega) (HB.out.alloc HB.out.size _) (by have := HB.out.size; simp; omega) (Nat.le_refl _) ?_; intro v1 w4 ho1 hb1 _ _; rw [ints_append] at ho1; have HO2 := Lib.hid ho1; have HB2 := Lib.hid hb1; clear ho1 hb1)
            go_roundw
            case rel =>
              refine ⟨p + 2, L ++ [16 * va + vb], by omega, by go_num, ?_, ?_, ?_, ?_, HB2.out⟩
              · exact Lib.hid (by rw [← hu.out, HU.out, if_pos (by omega)])
              · exact Lib.hid (by have := hpe.out; omega)
              · exact Lib.hid (by have := hl.out; simp; omega)
              · exact Lib.hid (by simpa using HO2.out)
            case measure => simp [intOf]; omega
          · rw [if_neg hvb]
            go_wp2
            go_ret2
            exact ⟨by rw [← hu.out, HU.out, if_neg (by omega)]; rfl, HB.out⟩
        · rw [if_neg hva]
          go_wp2
          all_goals
            go_ret2
            exact ⟨by rw [← hu.out, HU.out, if_neg (by omega)]; rfl, HB.out⟩
      · obtain rfl : p = s.size := by have := hpe.out; omega
        have hcv := own_str (P := Try.prog) Try.underlying31 Try.underlying5 Try.underlying9 ho.out
        go_wp2
        go_ret2
        exact ⟨by rw [← hu.out, drop_byte_end s _ (Nat.le_refl _)]; rfl, hb.out⟩
  · have ht : (((s.size : Int) % 2) != 0) = true := by simp; omega
    have HU := Lib.hid (show unhexF s = (⟨#[]⟩, false) from unhexLoop_odd s.data.toList.length _ _ (Nat.le_refl _) (by simpa using hodd))
    go_enter Try.func18, Try.ntmps18
    go_wp2
    go_ret2
    exact ⟨by rw [HU.out]; rfl, Below.refl _ _⟩
end Go.Proofs.Ytpgnddopnblflaa
