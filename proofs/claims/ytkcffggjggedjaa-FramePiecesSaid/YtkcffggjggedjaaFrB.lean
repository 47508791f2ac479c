/- frame.Put and rhzref5.Frames: what the calls come to. -/
import Derived.Test.YtkcffggjggedjaaFrA
import Derived.Test.YtkcffggjggedjaaFrPlain
import Derived.Deep.RegionLaw
namespace Go.Proofs.Ytkcffggjggedjaa
open Go.RowKit

theorem putF_two (n : Nat) (h : n ≤ 65535) : putF n 2 = (strOfNums [((n / 256 : Nat) : Int), ((n % 256 : Nat) : Int)], 0) := by
  unfold putF
  rw [if_pos (by omega)]
  have e : putLoop (2 : Int).toNat (n : Int) [0,0,0,0,0,0] = (0, [((n / 256 : Nat) : Int), ((n % 256 : Nat) : Int), 0, 0, 0, 0]) := by
    show putLoop 2 (n : Int) [0,0,0,0,0,0] = _
    simp only [putLoop, List.set]
    refine Prod.ext ?_ ?_
    · show (n : Int) / 256 / 256 = 0
      omega
    · show [(n : Int) / 256 % 256, (n : Int) % 256, 0, 0, 0, 0] = _
      rw [show (n : Int) / 256 % 256 = ((n / 256 : Nat) : Int) by omega, show (n : Int) % 256 = ((n % 256 : Nat) : Int) by omega]
  rw [e]; rfl
theorem two_src {P : Program} {w : World} {tx : TypeId} (hk : P.underlying tx = some .string) (n : Nat) (h : n ≤ 65535) :
    Src P 1 tx (.string (strOfNums [((n / 256 : Nat) : Int), ((n % 256 : Nat) : Int)])) 2 (ints .u8 [((n / 256 : Nat) : Int), ((n % 256 : Nat) : Int)]) w := by
  have hs := Src.ofString (P := P) w hk (strOfNums [((n / 256 : Nat) : Int), ((n % 256 : Nat) : Int)])
  have e : byteCells (strOfNums [((n / 256 : Nat) : Int), ((n % 256 : Nat) : Int)]) = ints .u8 [((n / 256 : Nat) : Int), ((n % 256 : Nat) : Int)] := by
    have h1 : n / 256 < 256 := by omega
    have h2 : n % 256 < 256 := by omega
    simp [byteCells, strOfNums, ints]
    omega
  have e2 : (strOfNums [((n / 256 : Nat) : Int), ((n % 256 : Nat) : Int)]).size = 2 := by rw [strOfNums_size]; rfl
  rwa [e, e2] at hs

theorem wrap_two1 (n : Nat) (h : n ≤ 65535) : IntKind.u8.wrap ((n : Int) / 256) = ((n / 256 : Nat) : Int) := by rw [IntKind.wrap_u8]; omega
theorem wrap_two2 (n : Nat) : IntKind.u8.wrap (n : Int) = ((n % 256 : Nat) : Int) := by rw [IntKind.wrap_u8]; omega

/-- Bytes of the call's own and an error's number. -/
def OwnErr (r : List Int × Int) (w : World) (e : Ending) (w' : World) : Prop :=
  ∃ v, e = .returned (.tuple #[v, .int .i64 r.2]) ∧ OwnB w' w.heap.size v r.1 ∧ Below w.heap.size w w'

set_option maxHeartbeats 2000000 in
theorem framePut_any (A : Option Addr) (ls : List (List Int)) (c : Nat) (w : World) (hl : ls.length ≤ 1000) (hA : Rows w A ls) :
    Calls Try.prog 11 #[.slice A ls.length c] w (OwnErr (framesF [] ls) w) := by
  obtain ⟨i0, hi, hz0, hz1, hz2⟩ := info_parts (show (Try.prog.info? 5).map (fun i => (i.zero, i.size, i.bytes)) = some (some (.int .u8 0), 1, 1) by kernel_rfl)
  have HA := Lib.hid hA
  clear hA
  generalize hf : framesF [] ls = R
  have HF := Lib.hid hf
  clear hf
  go_enter Try.func11, Try.ntmps11
  go_wp2
  go_loopw [4, 11] (fun vo vi wr => ∃ (k : Nat) (L : List Int), k ≤ ls.length ∧ vi = .int .i64 k ∧ Hid (framesF L (ls.drop k) = R) ∧ Hid (L.length ≤ 65537 * k) ∧ Hid (wr.ownsRow w.heap.size 5 1 vo L.length (ints .u8 L)) ∧ Hid (Below w.heap.size w wr)) (fun _ vi _ => ls.length - (intOf vi).toNat)
  case atStart => exact ⟨0, [], by omega, rfl, HF, Lib.hid (by simp), World.ownsRow_nil _ _ _ _, Below.refl _ _⟩
  case round =>
    obtain ⟨k, L, hk, rfl, hL, hl1, ho, hb⟩ := hrel
    by_cases hlt : k < ls.length
    · obtain ⟨b1, o1, A', c', rfl, hcw, _, hi1⟩ := HA.out.look hlt
      have hc := (hb.out.cell (World.block_lt_of_cell? w _ hcw)).trans hcw
      have HI := Lib.hid hi1
      have HD := Lib.hid (drop_get [] ls hlt)
      clear hi1 hcw
      generalize ls.getD k [] = x at hc HI HD
      by_cases hx : 65535 < x.length
      · go_wp2
        go_ret2
        have hR : R = ([], 3) := by rw [← hL.out, HD.out, framesF, if_pos hx]
        subst hR
        exact ⟨.slice none 0 0, rfl, World.ownsRow_nil _ _ _ _, hb.out⟩
      · have HX := Lib.hid (putF_two x.length (by omega))
        have hlen : (L.length : Int) ≤ 65537000 := by have := hl1.out; omega
        have S2 := fun W : World => two_src (P := Try.prog) (w := W) Try.underlying9 x.length (by omega)
        go_wp2_with (first
          | (go_at_call 23; refine (put_any _ _ _ (by omega)).mono ?_; rw [HX.out]; rintro e w1 ⟨rfl, hb1⟩; have hB1 := Lib.hid (below_then hb.out hb1); have HO1 := Lib.hid (own_below ho.out hb1); clear hb1)
          | (at_builtin; refine wp_append_src (w0 := w) w.heap.size 1 1 (.tmp 24) (.tmp 25) 23 9 5 rfl rfl Try.underlying23 hi hz0 hz1 hz2 rfl (by decide) HO1.out rfl (S2 _) rfl (by simp [maxLen]; omega) (by simp; omega) hB1.out hB1.out.size (Nat.le_refl _) ?_; intro v2 w2 ho2 hb2 _ _; rw [ints_append] at ho2; have HO2 := Lib.hid ho2; have HB2 := Lib.hid hb2; clear ho2 hb2)
          | (at_builtin; refine wp_append_src (w0 := w) w.heap.size 1 1 (.tmp 26) (.tmp 27) 23 23 5 rfl rfl Try.underlying23 hi hz0 hz1 hz2 rfl (by decide) HO2.out rfl (Ints.src (P := Try.prog) (HI.out.below HB2.out) Try.underlying23 c') rfl (by simp [maxLen]; omega) (by simp; omega) HB2.out HB2.out.size (Nat.le_refl _) ?_; intro v3 w3 ho3 hb3 _ _; rw [ints_append] at ho3; have HO3 := Lib.hid ho3; have HB3 := Lib.hid hb3; clear ho3 hb3))
        go_roundw
        case rel =>
          refine ⟨k + 1, L ++ [((x.length / 256 : Nat) : Int), ((x.length % 256 : Nat) : Int)] ++ x, by omega, by go_num, Lib.hid ?_, Lib.hid ?_, ?_, HB3⟩
          · rw [← hL.out, HD.out, framesF, if_neg hx]
          · have := hl1.out; simp; omega
          · have := HO3.out; exact Lib.hid (by simpa [Nat.add_assoc, Nat.add_comm, Nat.add_left_comm] using this)
        case measure => simp [intOf]; omega
    · obtain rfl : k = ls.length := by omega
      go_wp2
      go_ret2
      have h1 := hL.out
      rw [List.drop_eq_nil_of_le (Nat.le_refl _), framesF] at h1
      subst h1
      exact ⟨_, rfl, ho.out, hb.out⟩

set_option maxHeartbeats 4000000 in
theorem refFrames_any (A : Option Addr) (ls : List (List Int)) (c : Nat) (w : World) (hl : ls.length ≤ 1000) (hA : Rows w A ls) :
    Calls Try.prog 12 #[.slice A ls.length c] w (OwnErr (framesF [] ls) w) := by
  obtain ⟨i0, hi, hz0, hz1, hz2⟩ := info_parts (show (Try.prog.info? 5).map (fun i => (i.zero, i.size, i.bytes)) = some (some (.int .u8 0), 1, 1) by kernel_rfl)
  have HA := Lib.hid hA
  clear hA
  generalize hf : framesF [] ls = R
  have HF := Lib.hid hf
  clear hf
  go_enter Try.func12, Try.ntmps12
  go_wp2
  go_loopw [4, 5] (fun vo vi wr => ∃ (k : Nat) (L : List Int), k ≤ ls.length ∧ vi = .int .i64 k ∧ Hid (framesF L (ls.drop k) = R) ∧ Hid (L.length ≤ 65537 * k) ∧ Hid (wr.ownsRow w.heap.size 5 1 vo L.length (ints .u8 L)) ∧ Hid (Below w.heap.size w wr)) (fun _ vi _ => ls.length - (intOf vi).toNat)
  case atStart => exact ⟨0, [], by omega, rfl, HF, Lib.hid (by simp), World.ownsRow_nil _ _ _ _, Below.refl _ _⟩
  case round =>
    obtain ⟨k, L, hk, rfl, hL, hl1, ho, hb⟩ := hrel
    by_cases hlt : k < ls.length
    · obtain ⟨b1, o1, A', c', rfl, hcw, _, hi1⟩ := HA.out.look hlt
      have hbl := World.block_lt_of_cell? w _ hcw
      have HC := Lib.hid (fun (W : World) (hW : Below w.heap.size w W) => (hW.cell hbl).trans hcw)
      have hc := HC.out wr hb.out
      have HI := Lib.hid hi1
      have HD := Lib.hid (drop_get [] ls hlt)
      clear hi1 hcw
      generalize ls.getD k [] = x at hc HC HI HD
      by_cases hx : 65535 < x.length
      · go_wp2
        go_ret2
        have hR : R = ([], 3) := by rw [← hL.out, HD.out, framesF, if_pos hx]
        subst hR
        exact ⟨.slice none 0 0, rfl, World.ownsRow_nil _ _ _ _, hb.out⟩
      · have hlen : (L.length : Int) ≤ 65537000 := by have := hl1.out; omega
        have hca := fun o => HC.out (wr.alloc o) (hb.out.alloc hb.out.size o)
        go_wp2
        go_region_law (first
          | (refine step_append_src (w0 := w) w.heap.size 1 1 (.tmp 18) (.tmp 32) 23 23 5 rfl rfl Try.underlying23 hi hz0 hz1 hz2 rfl (by decide) (ho.out.alloc _) (by simp [Act.eval]) ((lits_lit wr.drew .u8 5 _ _).src Try.underlying23 2) (by simp [Act.eval]) (by simp [maxLen]; omega) (by simp; omega) (hb.out.drew.alloc hb.out.size _) (by have := hb.out.size; simp; omega) (Nat.le_refl _) ?_; intro v2 w2 ho2 hb2 _ _; rw [ints_append] at ho2; have HO2 := Lib.hid ho2; have HB2 := Lib.hid hb2; have hc2 := HC.out w2 hb2; clear ho2 hb2)
          | (refine step_append_src (w0 := w) w.heap.size 1 1 (.tmp 33) (.tmp 37) 23 23 5 rfl rfl Try.underlying23 hi hz0 hz1 hz2 rfl (by decide) HO2.out (by simp [Act.eval]) (Ints.src (P := Try.prog) (HI.out.below HB2.out) Try.underlying23 c') (by simp [Act.eval]) (by simp [maxLen]; omega) (by simp; omega) HB2.out HB2.out.size (Nat.le_refl _) ?_; intro v3 w3 ho3 hb3 _ _; rw [ints_append] at ho3; have HO3 := Lib.hid ho3; have HB3 := Lib.hid hb3; clear ho3 hb3))
        all_goals
          go_wp2
          go_roundw
          case rel =>
            refine ⟨k + 1, L ++ [((x.length / 256 : Nat) : Int), ((x.length % 256 : Nat) : Int)] ++ x, by omega, by go_num, Lib.hid ?_, Lib.hid ?_, ?_, HB3⟩
            · rw [← hL.out, HD.out, framesF, if_neg hx]
            · have := hl1.out; simp; omega
            · have h3 := HO3.out
              rw [wrap_two1 x.length (by omega), wrap_two2 x.length] at h3
              exact Lib.hid (by simpa [Nat.add_assoc, Nat.add_comm, Nat.add_left_comm] using h3)
          case measure => simp [intOf]; omega
    · obtain rfl : k = ls.length := by omega
      go_wp2
      go_ret2
      have h1 := hL.out
      rw [List.drop_eq_nil_of_le (Nat.le_refl _), framesF] at h1
      subst h1
      exact ⟨_, rfl, ho.out, hb.out⟩
end Go.Proofs.Ytkcffggjggedjaa
