/- Words of 64 bits: what the operations come to; turn, twice. -/
import Derived.Test.YtkodmicocjklcaaSh0
namespace Go.Proofs.Ytkodmicocjklcaa
open Go.RowKit

theorem u_wrap (n : Nat) : IntKind.u64.wrap (n : Int) = ((n % 2 ^ 64 : Nat) : Int) := by rw [IntKind.wrap_u64]; omega
theorem u_add (x y : BitVec 64) : IntKind.u64.wrap ((x.toNat : Int) + (y.toNat : Int)) = ((x + y).toNat : Int) := by
  rw [← Int.natCast_add, u_wrap, BitVec.toNat_add]
theorem u_of (x : BitVec 64) : BitVec.ofInt 64 (x.toNat : Int) = x := by
  rw [BitVec.ofInt_natCast, BitVec.ofNat_toNat, BitVec.setWidth_eq]
theorem u_back (x : BitVec 64) : IntKind.u64.wrap (x.toNat : Int) = (x.toNat : Int) := by
  rw [u_wrap, Nat.mod_eq_of_lt x.isLt]
theorem u_xor (x y : BitVec 64) : bits .xor .u64 (x.toNat : Int) (y.toNat : Int) = ((x ^^^ y).toNat : Int) := by
  show IntKind.u64.wrap (((BitVec.ofInt 64 (x.toNat : Int)) ^^^ (BitVec.ofInt 64 (y.toNat : Int))).toNat : Int) = _
  rw [u_of, u_of, u_back]
theorem u_and (x y : BitVec 64) : bits .and .u64 (x.toNat : Int) (y.toNat : Int) = ((x &&& y).toNat : Int) := by
  show IntKind.u64.wrap (((BitVec.ofInt 64 (x.toNat : Int)) &&& (BitVec.ofInt 64 (y.toNat : Int))).toNat : Int) = _
  rw [u_of, u_of, u_back]
theorem u_not (x : BitVec 64) : bits .xor .u64 (if IntKind.u64.signed = true then -1 else IntKind.u64.max) (x.toNat : Int) = ((~~~x).toNat : Int) := by
  have e : (if IntKind.u64.signed = true then -1 else IntKind.u64.max) = ((BitVec.allOnes 64).toNat : Int) := by decide
  rw [e, u_xor, BitVec.allOnes_xor]
theorem u_or (x y : BitVec 64) : bits .or .u64 (x.toNat : Int) (y.toNat : Int) = ((x ||| y).toNat : Int) := by
  show IntKind.u64.wrap (((BitVec.ofInt 64 (x.toNat : Int)) ||| (BitVec.ofInt 64 (y.toNat : Int))).toNat : Int) = _
  rw [u_of, u_of, u_back]
theorem u_shl (x : BitVec 64) (n : Nat) : IntKind.u64.wrap ((x.toNat : Int) * 2 ^ n) = ((x <<< n).toNat : Int) := by
  have e : ((x.toNat : Int) * 2 ^ n) = ((x.toNat * 2 ^ n : Nat) : Int) := by simp
  rw [e, u_wrap, BitVec.toNat_shiftLeft, Nat.shiftLeft_eq]
theorem u_shr (x : BitVec 64) (n : Nat) : (x.toNat : Int) / 2 ^ n = ((x >>> n).toNat : Int) := by
  rw [BitVec.toNat_ushiftRight, Nat.shiftRight_eq_div_pow]; simp
theorem u_turn (x : BitVec 64) (n : Nat) (h1 : n < 64) : x.rotateRight n = x >>> n ||| x <<< (64 - n) := by
  rw [BitVec.rotateRight_def, Nat.mod_eq_of_lt h1]

set_option maxHeartbeats 400000 in
theorem refTurn_any (x : BitVec 64) (n : Nat) (h0 : 0 < n) (h1 : n < 64) (w : World) : Calls Try.prog 29 #[U x, .int .u64 (n : Nat)] w fun e w' => e = .returned (U (x.rotateRight n)) ∧ w = w' := by
  have HR := Lib.hid (u_turn x n h1)
  unfold U
  have hx := x.isLt
  have HX := Lib.hid (show bits .or .u64 ((x.toNat : Int) / 2 ^ n) (IntKind.u64.wrap ((x.toNat : Int) * 2 ^ (64 - n))) = ((x >>> n ||| x <<< (64 - n)).toNat : Int) by rw [u_shl, u_shr, u_or])
  rw [← HR.out] at HX
  generalize (x.rotateRight n).toNat = r at HX ⊢
  generalize x.toNat = m at hx HX ⊢
  have hm : (m : Int) < 18446744073709551616 := by omega
  clear hx HR
  go_enter Try.func29, Try.ntmps29
  go_wp2
  go_ret
  refine ⟨?_, rfl⟩
  rw [← HX.out]
  simp
theorem and63 (n : Nat) (h0 : 0 < n) (h1 : n < 64) : bits .and .u64 (IntKind.u64.wrap (-(n : Int))) 63 = ((64 - n : Nat) : Int) := by
  have e : IntKind.u64.wrap (-(n : Int)) = ((2 ^ 64 - n : Nat) : Int) := by rw [IntKind.wrap_u64]; omega
  have h := (bits_nat .u64 64 (by decide) (fun z h0 h1 => by rw [IntKind.wrap_u64]; omega) (2 ^ 64 - n) 63 (by omega) (by omega)).1
  rw [e]
  have h2 : (63 : Int) = ((63 : Nat) : Int) := rfl
  rw [h2, h]
  have h3 := Nat.and_two_pow_sub_one_eq_mod (2 ^ 64 - n) 6
  rw [show (63 : Nat) = 2 ^ 6 - 1 by rfl, h3]
  omega
set_option maxHeartbeats 400000 in
theorem turn_any (x : BitVec 64) (n : Nat) (h0 : 0 < n) (h1 : n < 64) (w : World) : Calls Try.prog 32 #[U x, .int .i64 (n : Nat)] w fun e w' => e = .returned (U (x.rotateRight n)) ∧ w = w' := by
  have HR := Lib.hid (u_turn x n h1)
  unfold U
  have hx := x.isLt
  have HX := Lib.hid (show bits .or .u64 (IntKind.u64.wrap ((x.toNat : Int) * 2 ^ (64 - n))) ((x.toNat : Int) / 2 ^ n) = ((x >>> n ||| x <<< (64 - n)).toNat : Int) by rw [u_shl, u_shr, u_or, BitVec.or_comm])
  rw [← HR.out] at HX
  generalize (x.rotateRight n).toNat = r at HX ⊢
  generalize x.toNat = m at hx HX ⊢
  have hm : (m : Int) < 18446744073709551616 := by omega
  clear hx HR
  have hk := and63 n h0 h1
  have hk2 : ((64 - n : Nat) : Int) = 64 - (n : Int) := by omega
  rw [hk2] at hk
  clear hk2
  go_enter Try.func32, Try.ntmps32
  go_wp2
  go_ret
  refine ⟨?_, rfl⟩
  rw [← HX.out]
  simp [show 64 - (64 - n) = n by omega]
/-- A word turned to the right: a name that the walk does not open. -/
def R (n : Nat) (x : BitVec 64) : BitVec 64 := x.rotateRight n
theorem turn_i (x : BitVec 64) (k : Int) (h0 : 0 < k) (h1 : k < 64) (w : World) : Calls Try.prog 32 #[.int .u64 (x.toNat : Int), .int .i64 k] w fun e w' => e = .returned (.int .u64 ((R k.toNat x).toNat : Int)) ∧ w = w' := by
  obtain ⟨n, rfl⟩ := Int.eq_ofNat_of_zero_le (Int.le_of_lt h0)
  exact turn_any x n (by omega) (by omega) w
theorem turn_still (x : BitVec 64) (k : Int) (h0 : 0 < k) (h1 : k < 64) (w : World) : Calls Try.prog 32 #[.int .u64 (x.toNat : Int), .int .i64 k] w fun e w' => e = .returned (.int .u64 ((R k.toNat x).toNat : Int)) ∧ w' = w :=
  (turn_i x k h0 h1 w).mono fun _ _ ⟨h, e⟩ => ⟨h, e.symm⟩
theorem refTurn_i (x : BitVec 64) (k : Int) (h0 : 0 < k) (h1 : k < 64) (w : World) : Calls Try.prog 29 #[.int .u64 (x.toNat : Int), .int .u64 k] w fun e w' => e = .returned (.int .u64 ((R k.toNat x).toNat : Int)) ∧ w = w' := by
  obtain ⟨n, rfl⟩ := Int.eq_ofNat_of_zero_le (Int.le_of_lt h0)
  exact refTurn_any x n (by omega) (by omega) w
end Go.Proofs.Ytkodmicocjklcaa
