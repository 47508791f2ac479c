/- rhzlaw1.NumBack: the walk: whatever came in, the call answers true and writes nothing that was there. -/
import Derived.Test.YtpgnddopnblflaaBack
namespace Go.Proofs.Ytpgnddopnblflaa
open Go.RowKit

theorem hexF_size (s : ByteArray) : (hexF s).size = 2 * s.size := by
  unfold hexF
  rw [strOfNums_size, hexList_len]; simp

set_option maxHeartbeats 2000000 in
theorem back_none (width : Int) (A : Option Addr) (l : List Int) (ca : Nat) (s : ByteArray) (w : World) (hl : ∀ x ∈ l, x ≤ 9223372036854775807) (nl : l.length ≤ 500) (hs : s.size ≤ 8000) (hA : Ints .i64 w A l) (hj : joinF width l = (⟨#[]⟩, 1)) :
    Calls Try.prog 8 #[.int .i64 width, .slice A l.length ca, .string s] w fun e w' => e = .returned (.bool true) ∧ Below w.heap.size w w' := by
  have hB0 := Below.refl w.heap.size w
  have HA := Lib.hid hA
  have HL := Lib.hid hl
  have HJ := Lib.hid hj
  have HX := Lib.hid (unhexF_hexF s)
  have hz : (hexF s).size ≤ 1000000 := by rw [hexF_size]; omega
  clear hA hl hj
  generalize hxe : hexF s = x at HX hz
  have HX1 := Lib.hid hxe
  clear hxe
  go_enter Try.func8, Try.ntmps8
  go_wp2_with (first
    | (go_at_call 9; refine (first_any _).mono ?_; rintro e w1 ⟨rfl, hb1⟩; replace hB0 := below_then hB0 hb1; clear hb1)
    | (go_at_call 19; refine (hex_any s _ (by omega)).mono ?_; rw [HX1.out]; rintro e w1 ⟨rfl, hb1⟩; replace hB0 := below_then hB0 hb1; clear hb1)
    | (go_at_call 17; refine (unhex_any x _ hz).mono ?_; rw [HX.out]; rintro e w1 ⟨rfl, hb1⟩; replace hB0 := below_then hB0 hb1; clear hb1)
    | (go_at_call 10; refine (join_any width A l ca _ (by omega) HL.out (HA.out.below hB0)).mono ?_; rw [HJ.out]; rintro e w1 ⟨rfl, hb1⟩; replace hB0 := below_then hB0 hb1; clear hb1))
  go_ret
  exact ⟨rfl, hB0⟩

set_option maxHeartbeats 2000000 in
theorem back_got (m : Nat) (A : Option Addr) (l : List Int) (ca : Nat) (s j : ByteArray) (w : World) (hl : ∀ x ∈ l, x ≤ 9223372036854775807) (nl : l.length ≤ 500) (hs : s.size ≤ 8000) (hA : Ints .i64 w A l) (hj : joinF m l = (j, 0)) (h0 : 0 < m) (h6 : m ≤ 6) (hz : j.size = m * l.length)
    (hg : ∀ i (hi : i < l.length), getF j ((i * m : Nat) : Int) m = (l[i], 0)) (he : getF j (j.size : Int) m = (0, 2)) :
    Calls Try.prog 8 #[.int .i64 m, .slice A l.length ca, .string s] w fun e w' => e = .returned (.bool true) ∧ Below w.heap.size w w' := by
  have hB0 := Below.refl w.heap.size w
  have HA := Lib.hid hA
  have HL := Lib.hid hl
  have HJ := Lib.hid hj
  have HG := Lib.hid hg
  have HE := Lib.hid he
  have HX := Lib.hid (show ∃ x, hexF s = x ∧ unhexF x = (s, true) ∧ x.size ≤ 1000000 from ⟨_, rfl, unhexF_hexF s, by rw [hexF_size]; omega⟩)
  have hml : m * l.length ≤ 3000 := Nat.le_trans (Nat.mul_le_mul h6 nl) (by decide)
  have hjs : (j.size : Int) ≤ 3000 := by omega
  have hj0 : 0 ≤ (m : Int) * l.length := by rw [← Int.natCast_mul]; omega
  have hj1 : (m : Int) * l.length ≤ 3000 := by rw [← Int.natCast_mul]; omega
  have hjn : ((j.size : Int) != (m : Int) * l.length) = false := by rw [hz, Int.natCast_mul]; simp
  have hw0 : ¬ (m : Int) < 1 := by omega
  have hw6 : ¬ 6 < (m : Int) := by omega
  clear hA hl hj hg he hml hz
  obtain ⟨x, hx1, hx2, hx3⟩ := HX.out
  have HX1 := Lib.hid hx1
  have HX2 := Lib.hid hx2
  clear hx1 hx2 HX
  go_enter Try.func8, Try.ntmps8
  go_wp2_with (first
    | (go_at_call 9; refine (first_any _).mono ?_; rintro e w1 ⟨rfl, hb1⟩; replace hB0 := below_then hB0 hb1; clear hb1)
    | (go_at_call 19; refine (hex_any s _ (by omega)).mono ?_; rw [HX1.out]; rintro e w1 ⟨rfl, hb1⟩; replace hB0 := below_then hB0 hb1; clear hb1)
    | (go_at_call 17; refine (unhex_any x _ hx3).mono ?_; rw [HX2.out]; rintro e w1 ⟨rfl, hb1⟩; replace hB0 := below_then hB0 hb1; clear hb1)
    | (go_at_call 10; refine (join_any m A l ca _ (by omega) HL.out (HA.out.below hB0)).mono ?_; rw [HJ.out]; rintro e w1 ⟨rfl, hb1⟩; replace hB0 := below_then hB0 hb1; clear hb1))
  have HB := Lib.hid hB0
  clear hB0
  go_loopw [11] (fun vi wr => ∃ k : Nat, k ≤ l.length ∧ vi = .int .i64 k ∧ Hid (Below w.heap.size w wr)) (fun vi _ => l.length - (intOf vi).toNat)
  case atStart => exact ⟨0, by omega, rfl, HB⟩
  case round =>
    obtain ⟨k, hk, rfl, hb⟩ := hrel
    by_cases hlt : k < l.length
    · obtain ⟨b, off, rfl, hc⟩ := (HA.out.below hb.out) (by intro h; rw [h] at hlt; simp at hlt)
      have hc1 := hc k hlt
      have hgk := HG.out k hlt
      have hd : l[k] = l.getD k 0 := by rw [List.getD_eq_getElem?_getD, List.getElem?_eq_getElem hlt]; rfl
      rw [hd, Int.natCast_mul] at hgk
      have hkm : k * m ≤ 500 * 6 := Nat.mul_le_mul (by omega) (by omega)
      have hk0 : 0 ≤ (k : Int) * m := by rw [← Int.natCast_mul]; omega
      have hk1 : (k : Int) * m ≤ 3000 := by rw [← Int.natCast_mul]; omega
      have HK := Lib.hid hgk
      clear hc hgk hd hkm
      generalize l.getD k 0 = y at hc1 HK
      go_wp2_with (go_at_call 15; refine (get_any j _ m _).mono ?_; rw [HK.out]; rintro e w1 ⟨rfl, hb1⟩; have hc2 := (hb1.cell (World.block_lt_of_cell? _ _ hc1)).trans hc1; replace hb := Lib.hid (below_then hb.out hb1); clear hb1)
      go_roundw
      case rel => exact ⟨k + 1, by omega, by go_num, hb⟩
      case measure => simp [intOf]; omega
    · obtain rfl : k = l.length := by omega
      have hB0 := hb.out
      go_wp2_with (first
        | (go_at_call 9; refine (first_any _).mono ?_; rintro e w1 ⟨rfl, hb1⟩; replace hB0 := below_then hB0 hb1; clear hb1)
        | (go_at_call 15; refine (get_any j _ m _).mono ?_; rw [HE.out]; rintro e w1 ⟨rfl, hb1⟩; replace hB0 := below_then hB0 hb1; clear hb1))
      go_ret
      exact ⟨rfl, hB0⟩

theorem back_walk (width : Int) (A : Option Addr) (l : List Int) (ca : Nat) (s : ByteArray) (w : World) (hl : ∀ x ∈ l, x ≤ 9223372036854775807) (nl : l.length ≤ 9223372036854775807) (hs : s.size ≤ 9223372036854775807) (hA : Ints .i64 w A l) :
    Calls Try.prog 8 #[.int .i64 width, .slice A l.length ca, .string s] w fun e w' => e = .returned (.bool true) ∧ Below w.heap.size w w' := by
  by_cases h1 : 8000 < s.size
  · have hB0 := Below.refl w.heap.size w
    clear hl hA
    go_enter Try.func8, Try.ntmps8
    go_wp2_with (go_at_call 9; refine (first_any _).mono ?_; rintro e w1 ⟨rfl, hb1⟩; replace hB0 := below_then hB0 hb1; clear hb1)
    all_goals
      go_ret
      exact ⟨rfl, hB0⟩
  · by_cases h2 : 500 < l.length
    · have hB0 := Below.refl w.heap.size w
      clear hl hA
      go_enter Try.func8, Try.ntmps8
      go_wp2_with (go_at_call 9; refine (first_any _).mono ?_; rintro e w1 ⟨rfl, hb1⟩; replace hB0 := below_then hB0 hb1; clear hb1)
      all_goals
        go_ret
        exact ⟨rfl, hB0⟩
    · by_cases he : (joinF width l).2 = 0
      · obtain ⟨m, rfl, h0, h6, hz, hg, hx⟩ := joinF_got he
        exact back_got m A l ca s (joinF m l).1 w hl (by omega) (by omega) hA (pair_of he) h0 h6 hz hg hx
      · exact back_none width A l ca s w hl (by omega) (by omega) hA (joinF_none he)
end Go.Proofs.Ytpgnddopnblflaa
