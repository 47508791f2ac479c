/- rhzref1.Put, JoinNum and Get answer as num.Put, Join and Get do. -/
import Derived.Test.YtpgnddopnblflaaPartsWalk
import Derived.Test.YtpgnddopnblflaaBe
namespace Go.Proofs.Ytpgnddopnblflaa
open Go.RowKit

def topBytes : Nat → Nat → List Int
  | 0, _ => []
  | k + 1, n => ((n / 2 ^ (8 * k) % 256 : Nat) : Int) :: topBytes k n
theorem topBytes_be : ∀ (k n : Nat), (topBytes k n).map (fun n => UInt8.ofNat n.toNat) = be k n := by
  have front : ∀ (k n : Nat), be (k + 1) n = UInt8.ofNat (n / 256 ^ k % 256) :: be k n := by
    intro k
    induction k with
    | zero => intro n; simp [be]
    | succ k ih =>
      intro n
      rw [be, ih (n / 256), be, Nat.div_div_eq_div_mul, Nat.pow_succ, Nat.mul_comm (256 ^ k) 256]
      rfl
  intro k
  induction k with
  | zero => intro n; rfl
  | succ k ih =>
    intro n
    rw [front, topBytes, List.map_cons, ih, Int.toNat_natCast, show (2 : Nat) ^ (8 * k) = 256 ^ k by rw [Nat.pow_mul]]

theorem div_pow_lt {n width : Nat} (h : n < 256 ^ width) : decide (0 < (n : Int) / 2 ^ (8 * width)) = false := by
  have e : ((n : Int) / 2 ^ (8 * width)) = ((n / 2 ^ (8 * width) : Nat) : Int) := by simp
  rw [e, show (2 : Nat) ^ (8 * width) = 256 ^ width by rw [Nat.pow_mul], Nat.div_eq_of_lt h]; rfl
theorem div_pow_ge {n width : Nat} (h : ¬ n < 256 ^ width) : decide (0 < (n : Int) / 2 ^ (8 * width)) = true := by
  have e : ((n : Int) / 2 ^ (8 * width)) = ((n / 2 ^ (8 * width) : Nat) : Int) := by simp
  have hp : 0 < 256 ^ width := Nat.pow_pos (by decide)
  rw [e, show (2 : Nat) ^ (8 * width) = 256 ^ width by rw [Nat.pow_mul]]
  have := Nat.div_pos (by omega : 256 ^ width ≤ n) hp
  exact decide_eq_true (by omega)

set_option maxHeartbeats 1000000 in
theorem refPut_fits (n width : Nat) (w : World) (hN : (n : Int) ≤ 9223372036854775807) (h0 : 0 < (width : Int)) (h6 : (width : Int) ≤ 6) (hlt : n < 256 ^ width) : Calls Try.prog 13 #[.int .i64 n, .int .i64 width] w (TextErr (putF n width) w) := by
  obtain ⟨i0, hi, hz0, hz1, hz2⟩ := info_parts (show (Try.prog.info? 5).map (fun i => (i.zero, i.size, i.bytes)) = some (some (.int .u8 0), 1, 1) by kernel_rfl)
  have h1 : 1 ≤ (width : Int) := by omega
  have hd := div_pow_lt hlt
  have HP := Lib.hid (putF_nat n width (by omega) (by omega))
  rw [if_pos hlt] at HP
  clear hlt
  go_enter Try.func13, Try.ntmps13
  go_wp2
  go_loopw [6, 7] (fun vo vi wr => ∃ (k : Nat) (L : List Int), k ≤ width ∧ vi = .int .i64 ((k : Int) - 1) ∧ Hid (L ++ topBytes k n = topBytes width n) ∧ Hid (L.length + k = width) ∧ Hid (wr.ownsRow w.heap.size 5 1 vo L.length (ints .u8 L)) ∧ Hid (Below w.heap.size w wr)) (fun _ vi _ => (intOf vi + 1).toNat)
  case atStart => exact ⟨width, [], by omega, rfl, rfl, Lib.hid (by simp), World.ownsRow_nil _ _ _ _, Below.refl _ _⟩
  case round =>
    obtain ⟨k, L, hk, rfl, hL, hl, ho, hb⟩ := hrel
    rcases k with _ | k
    · have hcv := own_str (P := Try.prog) Try.underlying31 Try.underlying5 Try.underlying9 ho.out
      go_wp2
      go_ret2
      exact ⟨by rw [HP.out, ← topBytes_be, ← hL.out]; simp [strOfNums, topBytes], hb.out⟩
    · have hk2 : ((k + 1 : Nat) : Int) - 1 = (k : Int) := by omega
      have hk6 : (L.length : Int) + k ≤ 5 := by have := hl.out; omega
      rw [hk2]
      go_wp2_with (at_builtin; refine wp_append_src (w0 := w) w.heap.size 1 1 (.tmp 32) (.tmp 39) 31 31 5 rfl rfl Try.underlying31 hi hz0 hz1 hz2 rfl (by decide) (ho.out.alloc _) rfl ((ints_lit wr .u8 5 [_]).src Try.underlying31 1) rfl (by simp [maxLen]; omega) (by simp; omega) (hb.out.alloc hb.out.size _) (by have := hb.out.size; simp; omega) (Nat.le_refl _) ?_; intro v1 w1 ho1 hb1 _ _; rw [ints_append] at ho1; have HO := Lib.hid ho1; have HB := Lib.hid hb1; clear ho1 hb1)
      go_roundw
      case rel =>
        refine ⟨k, L ++ [((n / 2 ^ (8 * k) % 256 : Nat) : Int)], by omega, rfl, ?_, ?_, ?_, HB.out⟩
        · have := hL.out; rw [topBytes] at this; exact Lib.hid (by simpa using this)
        · have := hl.out; exact Lib.hid (by simp; omega)
        · have e : (n : Int) / 2 ^ (8 * k) % 256 = ((n / 2 ^ (8 * k) % 256 : Nat) : Int) := by simp
          have h2 := HO.out
          rw [e] at h2
          exact Lib.hid (by simpa using h2)
      case measure => simp [intOf]

set_option maxHeartbeats 1000000 in
theorem refPut_any (n width : Int) (w : World) (hN : n ≤ 9223372036854775807) : Calls Try.prog 13 #[.int .i64 n, .int .i64 width] w (TextErr (putF n width) w) := by
  by_cases hw : 0 < width ∧ width ≤ 6
  · obtain ⟨h0, h6⟩ := hw
    obtain ⟨m, rfl⟩ := Int.eq_ofNat_of_zero_le (Int.le_of_lt h0)
    by_cases hn : 0 ≤ n
    · obtain ⟨n, rfl⟩ := Int.eq_ofNat_of_zero_le hn
      by_cases hlt : n < 256 ^ m
      · exact refPut_fits n m w hN h0 h6 hlt
      · have hd := div_pow_ge hlt
        have HP := Lib.hid (putF_nat n m (by omega) (by omega))
        rw [if_neg hlt] at HP
        have h1 : 1 ≤ (m : Int) := by omega
        clear hlt
        go_enter Try.func13, Try.ntmps13
        go_wp2
        go_ret2
        exact ⟨by rw [HP.out]; rfl, Below.refl _ _⟩
    · have h1 : 1 ≤ (m : Int) := by omega
      go_enter Try.func13, Try.ntmps13
      go_wp2
      go_ret2
      exact ⟨by rw [putF_bad (by omega)]; rfl, Below.refl _ _⟩
  · by_cases h1 : width < 1
    · go_enter Try.func13, Try.ntmps13
      go_wp2
      go_ret2
      exact ⟨by rw [putF_bad (by omega)]; rfl, Below.refl _ _⟩
    · have h6 : 6 < width := by omega
      go_enter Try.func13, Try.ntmps13
      go_wp2
      go_ret2
      exact ⟨by rw [putF_bad (by omega)]; rfl, Below.refl _ _⟩

set_option maxHeartbeats 400000 in
theorem refJoin_any (width : Int) (A : Option Addr) (l : List Int) (c : Nat) (w : World) (hl : l.length ≤ 1000000) (hr : ∀ x ∈ l, x ≤ 9223372036854775807) (hA : Ints .i64 w A l) :
    Calls Try.prog 14 #[.int .i64 width, .slice A l.length c] w (TextErr (joinF width l) w) := by
  by_cases hw : 0 < width ∧ width ≤ 6
  · obtain ⟨h0, h6⟩ := hw
    have h1 : 1 ≤ width := by omega
    have HP := Lib.hid (show joinF width l = joinLoop width ⟨#[]⟩ l from if_pos ⟨h0, h6⟩)
    have HL := Lib.hid hA
    have HR := Lib.hid hr
    clear hr
    go_enter Try.func14, Try.ntmps14
    go_wp2
    go_loopw [6, 7] (fun vo vi wr => ∃ (k : Nat) (out : ByteArray), k ≤ l.length ∧ vi = .int .i64 k ∧ vo = .string out ∧ out.size ≤ 6 * k ∧ Hid (joinLoop width out (l.drop k) = joinLoop width ⟨#[]⟩ l) ∧ Below w.heap.size w wr) (fun _ vi _ => l.length - (intOf vi).toNat)
    case atStart => exact ⟨0, ⟨#[]⟩, by omega, rfl, rfl, by show (0 : Nat) ≤ 6 * 0; omega, rfl, Below.refl _ _⟩
    case round =>
      obtain ⟨k, out, hk, rfl, rfl, hz, hj, hb⟩ := hrel
      by_cases hlt : k < l.length
      · obtain ⟨b, off, rfl, hc⟩ := (HL.out.below hb) (by intro h; rw [h] at hlt; simp at hlt)
        have hc1 := hc k hlt
        have hd1 : l.drop k = l.getD k 0 :: l.drop (k + 1) := by rw [List.drop_eq_getElem_cons hlt, List.getD_eq_getElem?_getD, List.getElem?_eq_getElem hlt]; rfl
        have hx : l.getD k 0 ≤ 9223372036854775807 := HR.out _ (by rw [List.getD_eq_getElem?_getD, List.getElem?_eq_getElem hlt]; exact List.getElem_mem hlt)
        have HD := Lib.hid hd1
        clear hc hd1
        generalize l.getD k 0 = x at hc1 hx HD
        have hs6 := putF_size x width
        generalize hpf : putF x width = r at hs6
        have HPF := Lib.hid hpf
        clear hpf
        by_cases he : r.2 = 0
        · have he' : (r.2 != 0) = false := by simp [he]
          go_wp2_with (go_at_call 13; refine (refPut_any _ _ _ hx).mono ?_; rw [HPF.out]; rintro e w' ⟨rfl, hb'⟩)
          go_roundw
          case rel => exact ⟨k + 1, out ++ r.1, by omega, by go_num, rfl, by simp; omega, Lib.hid (by rw [← hj.out, HD.out, joinLoop, HPF.out, if_pos he]), below_then hb hb'⟩
          case measure => simp [intOf]; omega
        · have he' : (r.2 != 0) = true := by simp [he]
          go_wp2_with (go_at_call 13; refine (refPut_any _ _ _ hx).mono ?_; rw [HPF.out]; rintro e w' ⟨rfl, hb'⟩)
          go_ret2
          exact ⟨by rw [HP.out, ← hj.out, HD.out, joinLoop, HPF.out, if_neg he]; rfl, below_then hb hb'⟩
      · obtain rfl : k = l.length := by omega
        go_wp2
        go_ret2
        exact ⟨by rw [HP.out, ← hj.out, List.drop_eq_nil_of_le (Nat.le_refl _)]; rfl, hb⟩
  · have hj : joinF width l = (⟨#[]⟩, 1) := if_neg hw
    have HJ := Lib.hid hj
    clear hj
    by_cases h1 : width < 1
    · go_enter Try.func14, Try.ntmps14
      go_wp2
      go_ret2
      exact ⟨by rw [HJ.out]; rfl, Below.refl _ _⟩
    · have h6 : 6 < width := by omega
      go_enter Try.func14, Try.ntmps14
      go_wp2
      go_ret2
      exact ⟨by rw [HJ.out]; rfl, Below.refl _ _⟩

/-- 'n<<8 | c'. -/
theorem or_byte (n c : Nat) (hn : n < 1099511627776) (hc : c < 256) : bits .or .i64 ((n : Int) * 256) (c : Int) = ((256 * n + c : Nat) : Int) := by
  have h := (bits_nat .i64 63 (by decide) (fun z h0 h1 => by rw [IntKind.wrap_i64]; omega) (n * 256) c (by omega) (by omega)).2
  rw [show ((n : Int) * 256) = ((n * 256 : Nat) : Int) by omega, h]
  have h2 := Nat.two_pow_add_eq_or_of_lt (i := 8) hc n
  rw [show n * 256 = 2 ^ 8 * n by omega, ← h2]

set_option maxHeartbeats 400000 in
theorem refGet_any (s : ByteArray) (at_ width : Int) (w : World) (hs : s.size ≤ 9223372036854775807) : Calls Try.prog 16 #[.string s, .int .i64 at_, .int .i64 width] w (NumErr (getF s at_ width) w) := by
  by_cases hw : 0 < width ∧ width ≤ 6
  · obtain ⟨h0, h6⟩ := hw
    have h1 : 1 ≤ width := by omega
    by_cases ha : 0 ≤ at_ ∧ at_ ≤ s.size
    · obtain ⟨a0, a1⟩ := ha
      obtain ⟨p, rfl⟩ := Int.eq_ofNat_of_zero_le a0
      obtain ⟨m, rfl⟩ := Int.eq_ofNat_of_zero_le (Int.le_of_lt h0)
      by_cases hsh : (s.size : Int) - p < m
      · have HP := Lib.hid (getF_short ⟨h0, h6, a0, a1⟩ hsh)
        go_enter Try.func16, Try.ntmps16
        go_wp2
        go_ret2
        exact ⟨by rw [HP.out]; rfl, Below.refl _ _⟩
      · have hg := getF_got ⟨h0, h6, a0, a1⟩ hsh
        rw [Int.toNat_natCast, Int.toNat_natCast] at hg
        have HP := Lib.hid hg
        have hpm : p + m ≤ s.size := by omega
        clear hg
        have HZ := Lib.hid (show ((s.extract p s.size).extract 0 m).size = m by simp; omega)
        have HE := Lib.hid (show ∀ k, k < m → byteAt ((s.extract p s.size).extract 0 m) k = byteAt s (p + k) from fun k hk => by
          simp [byteAt, List.getD_eq_getElem?_getD, show p + k < s.size by omega]
          rw [List.getElem?_take_of_lt (by omega), List.getElem?_drop]
          simp [show p + k < s.size by omega])
        generalize ht : (s.extract p s.size).extract 0 m = t at HZ HP HE
        clear ht
        go_enter Try.func16, Try.ntmps16
        go_wp2
        go_loop [8, 9] (fun vn vi => ∃ (k n : Nat), k ≤ m ∧ vi = .int .i64 k ∧ vn = .int .i64 n ∧ Hid (n < 256 ^ k ∧ getLoop n (t.data.toList.drop k) = getLoop 0 t.data.toList)) (fun _ vi => m - (intOf vi).toNat)
        case atStart => exact ⟨0, 0, by omega, rfl, rfl, ⟨by decide, rfl⟩⟩
        case round =>
          obtain ⟨k, n, hk, rfl, rfl, hr⟩ := hrel
          by_cases hlt : k < m
          · have hb := byteAt_lt t k
            have hpk : p + k < s.size := by omega
            have hn : n < 1099511627776 := by have h5 : 256 ^ k ≤ 256 ^ 5 := Nat.pow_le_pow_right (by decide) (by omega); have := hr.out.1; omega
            have HO := Lib.hid (or_byte n (byteAt t k) hn hb)
            go_wp2
            go_round
            case rel => exact ⟨k + 1, 256 * n + byteAt t k, by omega, by go_num, (by rw [← HO.out, HE.out k hlt, byteAt_get s _ hpk]; have hb3 := byteAt_lt s (p + k); rw [byteAt_get s _ hpk] at hb3; rw [show wrap64 ((s[p + k].toNat : Nat) : Int) = ((s[p + k].toNat : Nat) : Int) by unfold wrap64; omega]), ⟨get_step hr.out.1 hb, by rw [← hr.out.2, drop_byte t k (by rw [HZ.out]; exact hlt)]; rfl⟩⟩
            case measure => simp [intOf]; omega
          · obtain rfl : k = m := by omega
            go_wp2
            go_ret2
            refine ⟨?_, Below.refl _ _⟩
            rw [HP.out, ← hr.out.2, drop_byte_end t k (by rw [HZ.out]; exact Nat.le_refl _)]; rfl
    · have HB := Lib.hid (getF_bad (s := s) (at_ := at_) (width := width) (by omega))
      by_cases hneg : at_ < 0
      · go_enter Try.func16, Try.ntmps16
        go_wp2
        go_ret2
        exact ⟨by rw [HB.out]; rfl, Below.refl _ _⟩
      · have hp : (s.size : Int) < at_ := by omega
        go_enter Try.func16, Try.ntmps16
        go_wp2
        go_ret2
        exact ⟨by rw [HB.out]; rfl, Below.refl _ _⟩
  · have HB := Lib.hid (getF_bad (s := s) (at_ := at_) (width := width) (by omega))
    by_cases h1 : width < 1
    · go_enter Try.func16, Try.ntmps16
      go_wp2
      go_ret2
      exact ⟨by rw [HB.out]; rfl, Below.refl _ _⟩
    · have h6 : 6 < width := by omega
      go_enter Try.func16, Try.ntmps16
      go_wp2
      go_ret2
      exact ⟨by rw [HB.out]; rfl, Below.refl _ _⟩
end Go.Proofs.Ytpgnddopnblflaa
