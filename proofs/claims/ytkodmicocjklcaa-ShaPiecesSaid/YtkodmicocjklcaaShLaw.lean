/- The plain laws: whole blocks of a text cut in two; both digests are one; the digest of "abc". -/
import Derived.Test.YtkodmicocjklcaaShRefSum
namespace Go.Proofs.Ytkodmicocjklcaa
open Go.RowKit

theorem eatF_app : ∀ (k : Nat) (H : List (BitVec 64)) (x y : List Int), x.length ≤ k → eatF (eatF H x).1 ((eatF H x).2 ++ y) = eatF H (x ++ y)
  | 0, H, x, y, h => by
    rw [eatF_small H (L := x) (by omega)]
  | k + 1, H, x, y, h => by
    by_cases hb : 128 ≤ x.length
    · rw [eatF_big H (L := x) hb, eatF_app k _ (x.drop 128) y (by simp; omega), eatF_big H (L := x ++ y) (by simp; omega), List.take_append_of_le_length hb, List.drop_append_of_le_length hb]
    · rw [eatF_small H (L := x) (by omega)]
theorem be8_app (m : Nat) : ∀ k (L X : List Int), be8 m k (L ++ X) = L ++ be8 m k X
  | 0, _, _ => rfl
  | k + 1, L, X => by rw [be8, be8, List.append_assoc, be8_app m k]
theorem padPut_app (m : Nat) (X : List Int) : ∀ k i (T : List Int), i + k ≤ T.length → padPut m k i (X ++ T) = X ++ padPut m k i T
  | 0, _, _, _ => rfl
  | k + 1, i, T, h => by
    rw [padPut, padPut, List.length_append, show X.length + T.length - 1 - i = X.length + (T.length - 1 - i) by omega, List.set_append_right _ _ (by omega), Nat.add_sub_cancel_left]
    exact padPut_app m X k (i + 1) _ (by simp; omega)
theorem padF_eq (n : Nat) : padF n = 128 :: List.replicate (padK n + 8) 0 ++ be8 (8 * n) 8 [] := by
  unfold padF
  generalize padK n = q
  have e : (128 : Int) :: List.replicate (q + 16) 0 = (128 :: List.replicate (q + 8) 0) ++ [0, 0, 0, 0, 0, 0, 0, 0] := by
    rw [show q + 16 = (q + 8) + 8 by omega, ← List.replicate_append_replicate]; rfl
  rw [e, padPut_app _ _ 8 0 _ (by simp), List.set_append_left _ _ (by simp; omega)]
  have e2 : ((128 : Int) :: List.replicate (q + 8) 0).set (1 + (q + 16) - 9) 0 = 128 :: List.replicate (q + 8) 0 := by
    rw [show 1 + (q + 16) - 9 = (q + 7) + 1 by omega, List.set_cons_succ, List.set_replicate_self]
  rw [e2]
  rfl
theorem outI_outH (H : List (BitVec 64)) : outI H 48 0 [] = outH H 6 0 [] := by rfl
theorem padZ_K (n : Nat) : padZ n = padK n := by unfold padZ padK; omega
theorem refPad_eq (L : List Int) : refPad L = L ++ padF L.length := by
  rw [refPad, padF_eq, padZ_K]
  rw [show L ++ 128 :: List.replicate (padK L.length) 0 ++ List.replicate 8 0 = (L ++ 128 :: List.replicate (padK L.length + 8) 0) ++ [] by
    rw [← List.replicate_append_replicate]; simp]
  rw [be8_app]; simp
theorem ref_digest (L : List Int) : refDigest L = digest L := by
  rw [refDigest, outI_outH, refPad_eq, digest, sumF, eatF_app _ _ _ _ (Nat.le_refl _)]
def abcL : List Int := [203, 0, 117, 63, 69, 163, 94, 139, 181, 160, 61, 105, 154, 198, 80, 7, 39, 44, 50, 171, 14, 222, 209, 99, 26, 139, 96, 90, 67, 255, 91, 237, 128, 134, 7, 43, 161, 231, 204, 35, 88, 186, 236, 161, 52, 200, 37, 167]
theorem digest_abc : digest [97, 98, 99] = abcL := by decide +kernel
end Go.Proofs.Ytkodmicocjklcaa
