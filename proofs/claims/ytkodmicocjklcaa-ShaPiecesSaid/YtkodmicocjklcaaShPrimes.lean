/- rhzref8.primes: what the call comes to. -/
import Derived.Test.YtkodmicocjklcaaShRoot
namespace Go.Proofs.Ytkodmicocjklcaa
open Go.RowKit

def isGo (p : Int) : List Int → Bool → Bool
  | [], is => is
  | q :: r, is => if q * q ≤ p then isGo p r (is && p % q != 0) else is
def primesGo : Nat → Int → List Int → List Int
  | 0, _, out => out
  | f + 1, p, out => if out.length < 80 then primesGo f (p + 1) (if isGo p out true = true then out ++ [p] else out) else out
def primeL : List Int := [2, 3, 5, 7, 11, 13, 17, 19, 23, 29, 31, 37, 41, 43, 47, 53, 59, 61, 67, 71, 73, 79, 83, 89, 97, 101, 103, 107, 109, 113, 127, 131, 137, 139, 149, 151, 157, 163, 167, 173, 179, 181, 191, 193, 197, 199, 211, 223, 227, 229, 233, 239, 241, 251, 257, 263, 269, 271, 277, 281, 283, 293, 307, 311, 313, 317, 331, 337, 347, 349, 353, 359, 367, 373, 379, 383, 389, 397, 401, 409]
theorem primeL_len : primeL.length = 80 := rfl
theorem primes_val : primesGo 408 2 [] = primeL := by kernel_rfl

set_option maxRecDepth 100000 in
set_option maxHeartbeats 4000000 in
theorem primes_any (w : World) :
    Calls Try.prog 18 #[.int .i64 80] w fun e w' => ∃ v, e = .returned v ∧ w'.ownsRow w.heap.size 40 1 v 80 (ints .u64 primeL) ∧ Below w.heap.size w w' := by
  obtain ⟨i0, hi, hz0, hz1, hz2⟩ := info_parts (show (Try.prog.info? 40).map (fun i => (i.zero, i.size, i.bytes)) = some (some (.int .u64 0), 1, 8) by kernel_rfl)
  obtain ⟨T, hT⟩ : ∃ T, primesGo 408 2 [] = T := ⟨_, rfl⟩
  have HTL := Lib.hid (show T = primeL by rw [← hT]; exact primes_val)
  have HT := Lib.hid (And.intro hT trivial)
  clear hT
  go_enter Try.func18, Try.ntmps18
  go_wp2
  go_loopg [3, 4] 408 (fun f vo vp wr => ∃ (p : Int) (out : List Int), vp = .int .u64 p ∧ 2 ≤ p ∧ p + (f : Int) = 410 ∧ out.length ≤ 80 ∧ Hid (primesGo f p out = T ∧ True) ∧ Hid (∀ q ∈ out, 2 ≤ q ∧ q ≤ 410) ∧ Hid (wr.ownsRow w.heap.size 40 1 vo out.length (ints .u64 out)) ∧ Hid (Below w.heap.size w wr))
  case atStart => exact ⟨2, [], rfl, by omega, by omega, by simp, HT, Lib.hid (fun q hq => by simp at hq), World.ownsRow_nil _ _ _ _, Below.refl _ _⟩
  case round =>
    clear HT
    obtain ⟨p, out, rfl, hp2, hpf, hl, hX, hq, ho, hb⟩ := hrel
    by_cases hlt : out.length < 80
    · rcases gk with _ | f
      · exfalso
        have := hX.out.1
        rw [primesGo] at this
        rw [this, HTL.out] at hlt
        exact absurd hlt (by decide)
      · have hp4 : p ≤ 410 := by omega
        have HX2 := Lib.hid (show primesGo f (p + 1) (if isGo p out true = true then out ++ [p] else out) = T ∧ True from ⟨by have := hX.out.1; rwa [primesGo, if_pos hlt] at this, trivial⟩)
        clear hX
        generalize hI : isGo p out true = I at HX2
        have HI := Lib.hid (And.intro hI trivial)
        clear hI
        have hlb : decide ((out.length : Int) < 80) = true := decide_eq_true (by omega)
        obtain ⟨A, c, hv, hA⟩ := Ints.own ho.out
        subst hv
        have HA := Lib.hid hA
        clear hA
        go_wp2
        go_loopw [5, 6] (fun vb vi wq => ∃ (i : Nat) (is : Bool), i ≤ out.length ∧ vi = .int .i64 i ∧ vb = .bool is ∧ Hid (isGo p (out.drop i) is = I ∧ True) ∧ Hid (wq.ownsRow w.heap.size 40 1 (.slice A out.length c) out.length (ints .u64 out)) ∧ Hid (Ints .u64 wq A out) ∧ Hid (Below w.heap.size w wq)) (fun _ vi _ => out.length - (intOf vi).toNat)
        case atStart => exact ⟨0, true, by omega, rfl, rfl, HI, ho, HA, hb⟩
        case round =>
          clear HI ho HA hb
          obtain ⟨i, is, hi1, rfl, rfl, hY, ho, HA, hb⟩ := hrel
          by_cases hil : i < out.length
          · obtain ⟨bb, off, rfl, hcx⟩ := HA.out (by intro e; rw [e] at hil; simp at hil)
            have c1 := hcx i hil
            have hq1 := hq.out (out.getD i 0) (by rw [List.getD_eq_getElem?_getD, List.getElem?_eq_getElem hil]; exact List.getElem_mem hil)
            have hY2 := hY.out.1
            rw [drop_get 0 out hil, isGo] at hY2
            generalize out.getD i 0 = q at c1 hq1 hY2
            obtain ⟨hq2, hq4⟩ := hq1
            have hqq : q * q ≤ 168100 := Int.le_trans (Int.mul_le_mul_of_nonneg_left hq4 (by omega)) (by omega)
            have hqq0 : 0 ≤ q * q := Int.mul_nonneg (by omega) (by omega)
            have p0 : (0 : Int) ≤ (i : Int) := by omega
            have q0 : (i : Int) < (out.length : Int) := by omega
            have HY2 := Lib.hid hY2
            clear hcx hY hY2
            by_cases hle : q * q ≤ p
            · have HY3 := Lib.hid (show isGo p (out.drop (i + 1)) (is && p % q != 0) = I by have := HY2.out; rwa [if_pos hle] at this)
              go_wp2
              go_quiet (fail)
              have ho' := Lib.hid (own_below ho.out (below_drewN (Below.refl _ _) nq))
              have hA' := Lib.hid (HA.out.below (below_drewN (Below.refl _ _) nq))
              have hb' := Lib.hid (below_drewN hb.out nq)
              have d1 : (wr.drewN nq).cell? ⟨bb, off + i, none⟩ = some (.int .u64 q) := c1
              clear c1 ho HA hb
              generalize wr.drewN nq = wr at ho' hA' hb' d1 ⊢
              cases is
              · go_wp2
                go_roundw
                case rel => exact ⟨i + 1, false, by omega, by go_num, rfl, Lib.hid ⟨by have := HY3.out; rwa [Bool.false_and] at this, trivial⟩, ho', hA', hb'⟩
                case measure => (simp [intOf] <;> omega)
              · by_cases hz : p % q = 0
                · have hz' : (p % q != 0) = false := by rw [hz]; rfl
                  have HZ := Lib.hid hz'
                  go_wp2
                  go_roundw
                  case rel => exact ⟨i + 1, false, by omega, by go_num, by simp, Lib.hid ⟨by have := HY3.out; rwa [HZ.out] at this, trivial⟩, ho', hA', hb'⟩
                  case measure => (simp [intOf] <;> omega)
                · have hz' : (p % q != 0) = true := bne_iff_ne.2 hz
                  have HZ := Lib.hid hz'
                  go_wp2
                  go_roundw
                  case rel => exact ⟨i + 1, true, by omega, by go_num, by simp, Lib.hid ⟨by have := HY3.out; rwa [HZ.out] at this, trivial⟩, ho', hA', hb'⟩
                  case measure => (simp [intOf] <;> omega)
            · have HIS := Lib.hid (show I = is by have := HY2.out; rw [if_neg hle] at this; exact this.symm)
              go_wp2
              go_quiet (fail)
              have ho' := Lib.hid (own_below ho.out (below_drewN (Below.refl _ _) nq))
              have hA' := Lib.hid (HA.out.below (below_drewN (Below.refl _ _) nq))
              have hb' := Lib.hid (below_drewN hb.out nq)
              have d1 : (wr.drewN nq).cell? ⟨bb, off + i, none⟩ = some (.int .u64 q) := c1
              clear c1 ho HA hb
              generalize wr.drewN nq = wr at ho' hA' hb' d1 ⊢
              cases is
              · go_wp2
                go_roundg f
                case measure => omega
                case rel => exact ⟨p + 1, out, rfl, by omega, by omega, hl, Lib.hid (by have := HX2.out; rwa [HIS.out, if_neg (by simp)] at this), hq, ho', hb'⟩
              · go_wp2_with (at_builtin; refine wp_append_src (w0 := w) w.heap.size 1 8 (.tmp 43) (.tmp 45) 38 38 40 rfl rfl Try.underlying38 hi hz0 hz1 hz2 rfl (by decide) (ho'.out.alloc _) rfl ((ints_lit _ .u64 40 [p]).src Try.underlying38 1) rfl (by unfold maxLen; simp; omega) (by simp; omega) (hb'.out.alloc hb'.out.size _) (by have := hb'.out.size; simp; omega) (Nat.le_refl _) ?_; intro v5 w5 ho5 hb5 _ _; rw [ints_append] at ho5; have HO5 := Lib.hid ho5; have HB5 := Lib.hid hb5; clear ho5 hb5)
                go_roundg f
                case measure => omega
                case rel => exact ⟨p + 1, out ++ [p], rfl, by omega, by omega, by simp; omega, Lib.hid (by have := HX2.out; rwa [HIS.out, if_pos rfl] at this), Lib.hid (fun q hq' => by rcases List.mem_append.1 hq' with h | h; exact hq.out q h; (simp only [List.mem_singleton] at h; omega)), Lib.hid (by simpa using HO5.out), HB5⟩
          · obtain rfl : i = out.length := by omega
            have HIS := Lib.hid (show I = is by have := hY.out.1; rw [List.drop_eq_nil_of_le (Nat.le_refl _), isGo] at this; exact this.symm)
            have hlen2 : decide ((out.length : Int) < (out.length : Int)) = false := decide_eq_false (by omega)
            go_wp2
            go_quiet (fail)
            have ho' := Lib.hid (own_below ho.out (below_drewN (Below.refl _ _) nq))
            have hb' := Lib.hid (below_drewN hb.out nq)
            clear ho HA hb
            generalize wr.drewN nq = wr at ho' hb' ⊢
            cases is
            · go_wp2
              go_roundg f
              case measure => omega
              case rel => exact ⟨p + 1, out, rfl, by omega, by omega, hl, Lib.hid (by have := HX2.out; rwa [HIS.out, if_neg (by simp)] at this), hq, ho', hb'⟩
            · go_wp2_with (at_builtin; refine wp_append_src (w0 := w) w.heap.size 1 8 (.tmp 43) (.tmp 45) 38 38 40 rfl rfl Try.underlying38 hi hz0 hz1 hz2 rfl (by decide) (ho'.out.alloc _) rfl ((ints_lit _ .u64 40 [p]).src Try.underlying38 1) rfl (by unfold maxLen; simp; omega) (by simp; omega) (hb'.out.alloc hb'.out.size _) (by have := hb'.out.size; simp; omega) (Nat.le_refl _) ?_; intro v5 w5 ho5 hb5 _ _; rw [ints_append] at ho5; have HO5 := Lib.hid ho5; have HB5 := Lib.hid hb5; clear ho5 hb5)
              go_roundg f
              case measure => omega
              case rel => exact ⟨p + 1, out ++ [p], rfl, by omega, by omega, by simp; omega, Lib.hid (by have := HX2.out; rwa [HIS.out, if_pos rfl] at this), Lib.hid (fun q hq' => by rcases List.mem_append.1 hq' with h | h; exact hq.out q h; (simp only [List.mem_singleton] at h; omega)), Lib.hid (by simpa using HO5.out), HB5⟩
    · have hTo : T = out := by
        have := hX.out.1
        cases gk with
        | zero => rw [primesGo] at this; exact this.symm
        | succ f => rw [primesGo, if_neg hlt] at this; exact this.symm
      have h80 : out.length = 80 := by omega
      obtain ⟨A, c, hv, _⟩ := Ints.own ho.out
      subst hv
      have HO := Lib.hid (show wr.ownsRow w.heap.size 40 1 (.slice A out.length c) 80 (ints .u64 primeL) by rw [← HTL.out, hTo]; have := ho.out; rw [show out.length = 80 by omega] at this ⊢; exact this)
      have hlt' : ¬ ((out.length : Int) < 80) := by omega
      clear hTo h80
      go_wp2
      go_ret
      exact ⟨_, rfl, HO.out, hb.out⟩
end Go.Proofs.Ytkodmicocjklcaa
