/- num.Hex and num.Unhex: what the calls come to, as plain functions. -/
import Derived.Test.YtpgnddopnblflaaPut
import Derived.Deep.QuietTactic
import Derived.BigQuiet
namespace Go.Proofs.Ytpgnddopnblflaa
open Go.RowKit

/-! ### digits -/
def hexDigit (n : Int) : Int := if 9 < n then 97 + n - 10 else 48 + n
set_option maxHeartbeats 400000 in
theorem digit_any (n : Int) (w : World) (h0 : 0 ≤ n) (h1 : n ≤ 15) : Calls Try.prog 25 #[.int .u8 n] w fun e w' => e = .returned (.int .u8 (hexDigit n)) ∧ w = w' := by
  by_cases h : 9 < n
  · have HD := Lib.hid (show hexDigit n = 97 + n - 10 from if_pos h)
    go_enter Try.func25, Try.ntmps25
    go_wp2
    go_ret
    exact ⟨by rw [HD.out]; simp, rfl⟩
  · have HD := Lib.hid (show hexDigit n = 48 + n from if_neg h)
    go_enter Try.func25, Try.ntmps25
    go_wp2
    go_ret
    exact ⟨by rw [HD.out]; simp, rfl⟩
theorem hexDigit_range {n : Int} (h0 : 0 ≤ n) (h1 : n ≤ 15) : 0 ≤ hexDigit n ∧ hexDigit n ≤ 255 := by unfold hexDigit; split <;> omega

/-- The number of a digit; 16: it is none. -/
def hexValue (c : Int) : Int := if 48 ≤ c ∧ c ≤ 57 then c - 48 else if 97 ≤ c ∧ c ≤ 102 then c - 97 + 10 else 16
set_option maxHeartbeats 400000 in
theorem value_any (c : Int) (w : World) (h0 : 0 ≤ c) (h1 : c ≤ 255) : Calls Try.prog 23 #[.int .u8 c] w fun e w' => e = .returned (.int .u8 (hexValue c)) ∧ w = w' := by
  have HV := Lib.hid (show hexValue c = if 48 ≤ c ∧ c ≤ 57 then c - 48 else if 97 ≤ c ∧ c ≤ 102 then c - 97 + 10 else 16 from rfl)
  rcases (show c < 48 ∨ (48 ≤ c ∧ c ≤ 57) ∨ (57 < c ∧ c < 97) ∨ (97 ≤ c ∧ c ≤ 102) ∨ 102 < c by omega) with h | ⟨h, h'⟩ | ⟨h, h'⟩ | ⟨h, h'⟩ | h
  all_goals
    go_enter Try.func23, Try.ntmps23
    go_wp2
    go_ret
    refine ⟨?_, rfl⟩
    rw [HV.out]
  · rw [if_neg (by omega), if_neg (by omega)]; rfl
  · rw [if_pos (by omega)]; rfl
  · rw [if_neg (by omega), if_neg (by omega)]; rfl
  · rw [if_neg (by omega), if_pos (by omega)]; rfl
  · rw [if_neg (by omega), if_neg (by omega)]; rfl
theorem hexValue_range (c : Int) : 0 ≤ hexValue c ∧ hexValue c ≤ 16 := by unfold hexValue; split; omega; split <;> omega

/-! ### Hex -/
def hexList : List UInt8 → List Int
  | [] => []
  | c :: l => hexDigit ((c.toNat : Int) / 16) :: hexDigit ((c.toNat : Int) % 16) :: hexList l
theorem hexList_len : ∀ l, (hexList l).length = 2 * l.length
  | [] => rfl
  | c :: l => by simp [hexList, hexList_len l]; omega
def hexF (s : ByteArray) : ByteArray := strOfNums (hexList s.data.toList)

set_option maxHeartbeats 1000000 in
theorem hex_any (s : ByteArray) (w : World) (hs : s.size ≤ 1000000) : Calls Try.prog 19 #[.string s] w (Text (hexF s) w) := by
  obtain ⟨i0, hi, hz0, hz1, hz2⟩ := info_parts (show (Try.prog.info? 5).map (fun i => (i.zero, i.size, i.bytes)) = some (some (.int .u8 0), 1, 1) by kernel_rfl)
  have hcb := fun (W : World) (s : ByteArray) => Lib.run_convert_string_bytes (P := Try.prog) W 9 31 5 s Try.underlying9 Try.underlying31 Try.underlying5
  obtain ⟨w1, hmk, ho1, hg1⟩ := run_make_own (P := Try.prog) w w.heap.size 31 5 i0 (.int .u8 0) 1 Try.underlying31 hi hz0 hz1 .i64 .i64 (2 * s.size) (by rw [hz2]; omega) (by unfold maxLen; omega) (Nat.le_refl _)
  have hmk' : (Instr.makeSlice 31 (.int .i64 0) (.int .i64 (2 * (s.size : Int)))).run Try.prog w = .ok (.slice (some ⟨w.heap.size, 0, none⟩) 0 (2 * s.size)) w1 := by
    have e : ((2 * s.size : Nat) : Int) = 2 * (s.size : Int) := by omega
    rw [← e]; exact hmk
  have HO1 := Lib.hid ho1
  have hB1 : Below w.heap.size w w1 := (Below.refl _ _).grown hg1 (Nat.le_refl _) (fun k hk => by cases hk)
  have HB1 := Lib.hid hB1
  clear ho1 hmk hg1 hB1
  go_enter Try.func19, Try.ntmps19
  go_wp2
  clear hcb hmk'
  have HO := Lib.hid (HO1.out.kept (w' := Lib.bytesWorld w1 5 s) (row := none) ⟨rfl, rfl, rfl, by rw [Lib.bytesWorld_size]; omega, fun i hi _ => Lib.bytesWorld_at_old w1 5 s i hi⟩ (by simp [Value.ownBlock]))
  have HB := Lib.hid (below_bytes HB1.out 5 s)
  have hTt := Lib.bytesWorld_at_new w1 5 s
  have hTg := fun j h => bytesCells_get w1 5 s j h
  generalize Lib.bytesCells w1 5 s = T at hTt hTg
  generalize Lib.bytesWorld w1 5 s = w2 at HO HB hTt ⊢
  have HT := Lib.hid hTt
  have HG := Lib.hid hTg
  clear hTt hTg
  go_loopw [3, 13] (fun vo vi wr => ∃ (k : Nat) (L : List Int), k ≤ s.size ∧ vi = .int .i64 k ∧ Hid (L ++ hexList (s.data.toList.drop k) = hexList s.data.toList) ∧ Hid (L.length = 2 * k) ∧ Hid (wr.ownsRow w.heap.size 5 1 vo L.length (ints .u8 L)) ∧
      Hid (wr.heap[w1.heap.size]? = some (.cells T 5 (T.size, T.size + 1))) ∧ Hid (Below w.heap.size w wr)) (fun _ vi _ => s.size - (intOf vi).toNat)
  case atStart => exact ⟨0, [], by omega, rfl, rfl, rfl, HO, HT, HB⟩
  case round =>
    obtain ⟨k, L, hk, rfl, hL, hl, ho, ht, hb⟩ := hrel
    by_cases hlt : k < s.size
    · have hc : wr.cell? ⟨w1.heap.size, k, none⟩ = some (.int .u8 ((byteAt s k : Nat) : Int)) := by rw [cell_of_row _ _ _ _ _ _ ht.out]; exact HG.out k hlt
      have hbt := byteAt_lt s k
      have hlen : (L.length : Int) ≤ 2000000 := by have := hl.out; omega
      go_wp2_with (first
        | (go_at_call 25; refine (digit_any _ _ (by omega) (by omega)).mono ?_; rintro e w3 ⟨rfl, rfl⟩)
        | (at_builtin; refine wp_append_src (w0 := w) w.heap.size 1 1 (.tmp 17) (.tmp 24) 31 31 5 rfl rfl Try.underlying31 hi hz0 hz1 hz2 rfl (by decide) (ho.out.alloc _) rfl ((lits_lit wr .u8 5 _ _).src Try.underlying31 2) rfl (by simp [maxLen]; omega) (by simp; omega) (hb.out.alloc hb.out.size _) (by have := hb.out.size; simp; omega) (Nat.le_refl _) ?_; intro v1 w4 ho1 hb1 hg1 _; rw [ints_append] at ho1; have HO := Lib.hid ho1; have HB := Lib.hid hb1; have HT := Lib.hid (blk_grown (blk_alloc ht.out _) hg1 (own_not_text ho.out ht.out)); clear ho1 hb1 hg1))
      go_roundw
      case rel =>
        refine ⟨k + 1, L ++ [hexDigit ((byteAt s k : Nat) / 16), hexDigit ((byteAt s k : Nat) % 16)], by omega, by go_num, ?_, ?_, ?_, HT, HB⟩
        · have h1 := hL.out; rw [drop_byte s k hlt] at h1; exact Lib.hid (by rw [← h1]; simp [hexList, byteAt])
        · have := hl.out; exact Lib.hid (by simp; omega)
        · exact Lib.hid (by simpa using HO.out)
      case measure => simp [intOf]; omega
    · obtain rfl : k = s.size := by omega
      have hcv := own_str (P := Try.prog) Try.underlying31 Try.underlying5 Try.underlying9 ho.out
      go_wp2
      go_ret
      exact ⟨by unfold hexF; rw [← hL.out, drop_byte_end s _ (Nat.le_refl _)]; simp [hexList], hb.out⟩

/-! ### Unhex -/
def unhexLoop : List Int → List UInt8 → ByteArray × Bool
  | out, [] => (strOfNums out, true)
  | _, [_] => (⟨#[]⟩, false)
  | out, a :: b :: r => if hexValue a.toNat ≤ 15 ∧ hexValue b.toNat ≤ 15 then unhexLoop (out ++ [16 * hexValue a.toNat + hexValue b.toNat]) r else (⟨#[]⟩, false)
def unhexF (s : ByteArray) : ByteArray × Bool := unhexLoop [] s.data.toList
theorem quiet_any {P : Program} {f : FuncId} {args : Array Value} {w : World} {n : Nat} {v : Value}
    (h : Calls P f args (w.drewN n) fun e w' => e = .returned v ∧ w.drewN n = w') : Calls P f args (w.drewN n) fun e w'' => e = .returned v ∧ ∃ m, w'' = w.drewN m :=
  h.mono fun _ _ ⟨he, hm⟩ => ⟨he, n, hm.symm⟩
def strSize : Value → Nat | .string t => t.size | _ => 0
theorem data_two (t : ByteArray) (h : 1 < t.size) : t.data.toList = UInt8.ofNat (byteAt t 0) :: UInt8.ofNat (byteAt t 1) :: (t.extract 2 t.size).data.toList := by
  have h1 := drop_byte t 0 (by omega)
  have h2 := drop_byte t 1 h
  rw [List.drop_zero] at h1
  rw [h1, h2]
  have e0 : UInt8.ofNat (byteAt t 0) = t.data.toList.getD 0 0 := by unfold byteAt; simp
  have e1 : UInt8.ofNat (byteAt t 1) = t.data.toList.getD 1 0 := by unfold byteAt; simp
  rw [e0, e1]
  congr 2
  simp only [ByteArray.data_extract, Array.toList_extract, List.extract_eq_take_drop, Nat.reduceAdd]
  exact (List.take_of_length_le (by simp)).symm

set_option maxHeartbeats 1000000 in
theorem unhex_any (s : ByteArray) (w : World) (hs : s.size ≤ 1000000) : Calls Try.prog 17 #[.string s] w (TextOk (unhexF s) w) := by
  obtain ⟨i0, hi, hz0, hz1, hz2⟩ := info_parts (show (Try.prog.info? 5).map (fun i => (i.zero, i.size, i.bytes)) = some (some (.int .u8 0), 1, 1) by kernel_rfl)
  go_enter Try.func17, Try.ntmps17
  go_wp2
  go_loopw [0, 4] (fun vs vo wr => ∃ (t : ByteArray) (L : List Int), vs = .string t ∧ t.size + L.length ≤ 1000000 ∧ Hid (unhexLoop L t.data.toList = unhexF s) ∧ Hid (wr.ownsRow w.heap.size 5 1 vo L.length (ints .u8 L)) ∧ Hid (Below w.heap.size w wr)) (fun vs _ _ => strSize vs)
  case atStart => exact ⟨s, [], rfl, by simpa using hs, rfl, World.ownsRow_nil _ _ _ _, Below.refl _ _⟩
  case round =>
    obtain ⟨t, L, rfl, hsz, hu, ho, hb⟩ := hrel
    by_cases hlt : 1 < t.size
    · have HD := Lib.hid (data_two t hlt)
      have b0 := byteAt_lt t 0
      have b1 := byteAt_lt t 1
      have hlt0 : 0 < t.size := by omega
      have g0 := Lib.hid (byteAt_get t 0 hlt0)
      have g1 := Lib.hid (byteAt_get t 1 hlt)
      have q0 : t[0].toNat < 256 := UInt8.toNat_lt _
      have q1 : t[1].toNat < 256 := UInt8.toNat_lt _
      go_wp2
      go_quiet ((go_at_call 23; exact quiet_any (value_any _ _ (by omega) (by omega))))
      have v0 := hexValue_range (t[0].toNat : Int)
      have v1 := hexValue_range (t[1].toNat : Int)
      have HU := Lib.hid (show unhexLoop L t.data.toList = if hexValue (t[0].toNat : Int) ≤ 15 ∧ hexValue (t[1].toNat : Int) ≤ 15 then unhexLoop (L ++ [(16 : Int) * hexValue (t[0].toNat : Int) + hexValue (t[1].toNat : Int)]) (t.extract 2 t.size).data.toList else (⟨#[]⟩, false) by
        rw [HD.out, unhexLoop]
        have e0 : ((UInt8.ofNat (byteAt t 0)).toNat : Int) = (t[0].toNat : Int) := by rw [g0.out]; simp
        have e1 : ((UInt8.ofNat (byteAt t 1)).toNat : Int) = (t[1].toNat : Int) := by rw [g1.out]; simp
        rw [e0, e1])
      clear HD g0 g1 b0 b1 q0 q1
      generalize hexValue (t[0].toNat : Int) = va at v0 HU ⊢
      generalize hexValue (t[1].toNat : Int) = vb at v1 HU ⊢
      obtain ⟨va0, va1⟩ := v0
      obtain ⟨vb0, vb1⟩ := v1
      have HO := Lib.hid (show (wr.drewN nq).ownsRow w.heap.size 5 1 u4 L.length (ints .u8 L) from ho.out)
      have HB := Lib.hid (show Below w.heap.size w (wr.drewN nq) from ⟨hb.out.os, hb.out.tape, hb.out.output, hb.out.size, hb.out.block⟩)
      clear ho hb
      generalize wr.drewN nq = w2 at HO HB ⊢
      by_cases hva : 15 < va
      · go_wp2
        go_ret2
        exact ⟨by rw [← hu.out, HU.out, if_neg (by omega)]; rfl, HB.out⟩
      · by_cases hvb : 15 < vb
        · go_wp2
          go_ret2
          exact ⟨by rw [← hu.out, HU.out, if_neg (by omega)]; rfl, HB.out⟩
        · have hL : (L.length : Int) ≤ 1000000 := by omega
          go_wp2_with (at_builtin; refine wp_append_src (w0 := w) w.heap.size 1 1 (.tmp 24) (.tmp 29) 31 31 5 rfl rfl Try.underlying31 hi hz0 hz1 hz2 rfl (by decide) (HO.out.alloc _) rfl ((ints_lit w2 .u8 5 [_]).src Try.underlying31 1) rfl (by simp [maxLen]; omega) (by simp; omega) (HB.out.alloc HB.out.size _) (by have := HB.out.size; simp; omega) (Nat.le_refl _) ?_; intro v1 w4 ho1 hb1 _ _; rw [ints_append] at ho1; have HO2 := Lib.hid ho1; have HB2 := Lib.hid hb1; clear ho1 hb1)
          go_roundw
          case rel =>
            refine ⟨t.extract 2 t.size, L ++ [16 * va + vb], by simp, ?_, ?_, ?_, HB2.out⟩
            · simp; omega
            · exact Lib.hid (by rw [← hu.out, HU.out, if_pos (by omega)])
            · exact Lib.hid (by simpa using HO2.out)
          case measure => simp [strSize]; omega
    · by_cases h0 : t.size = 0
      · have hnil : t.toList = [] := by rw [ByteArray.toList_eq]; exact List.eq_nil_of_length_eq_zero (by simpa using h0)
        have hnil2 : t.toList.isEmpty = true := by rw [hnil]; rfl
        have hcv := own_str (P := Try.prog) Try.underlying31 Try.underlying5 Try.underlying9 ho.out
        have hn3 : t.data.toList = [] := by rw [ByteArray.toList_eq] at hnil; exact hnil
        have HN := Lib.hid hn3
        clear hn3 hnil
        go_wp2
        go_ret2
        exact ⟨by rw [← hu.out, HN.out]; rfl, hb.out⟩
      · have h1 : t.size = 1 := by omega
        have HN := Lib.hid (show ∃ c, t.data.toList = [c] from by
          have hl : t.data.toList.length = 1 := by simpa using h1
          exact List.length_eq_one_iff.1 hl)
        have hne : t.toList.isEmpty = false := by
          obtain ⟨c, hc⟩ := HN.out
          rw [ByteArray.toList_eq, hc]; rfl
        have hne2 : (!t.toList.isEmpty) = true := by rw [hne]; rfl
        go_wp2
        go_ret2
        obtain ⟨c, hc⟩ := HN.out
        exact ⟨by rw [← hu.out, hc]; rfl, hb.out⟩
end Go.Proofs.Ytpgnddopnblflaa
