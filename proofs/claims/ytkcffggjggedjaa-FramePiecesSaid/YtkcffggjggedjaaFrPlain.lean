/- Frames and what is taken of bytes, plainly. -/
import Derived.Test.YtkcffggjggedjaaFr
namespace Go.Proofs.Ytkcffggjggedjaa
open Go.RowKit

def framesF : List Int → List (List Int) → List Int × Int
  | out, [] => (out, 0)
  | out, b :: r => if 65535 < b.length then ([], 3) else framesF (out ++ [((b.length / 256 : Nat) : Int), ((b.length % 256 : Nat) : Int)] ++ b) r
def takeR : List Int → List (List Int) × Nat
  | a :: b :: r =>
    if 256 * a.toNat + b.toNat ≤ r.length then
      (r.take (256 * a.toNat + b.toNat) :: (takeR (r.drop (256 * a.toNat + b.toNat))).1, 2 + (256 * a.toNat + b.toNat) + (takeR (r.drop (256 * a.toNat + b.toNat))).2)
    else ([], 0)
  | [] => ([], 0)
  | [_] => ([], 0)
termination_by l => l.length
decreasing_by all_goals simp; omega
theorem takeR_short {l : List Int} (h : l.length < 2) : takeR l = ([], 0) := by
  match l, h with
  | [], _ => rw [takeR]
  | [a], _ => rw [takeR]
theorem takeR_lack {l : List Int} (h : 2 ≤ l.length) (hn : l.length < 2 + (256 * (l.getD 0 0).toNat + (l.getD 1 0).toNat)) : takeR l = ([], 0) := by
  match l, h, hn with
  | a :: b :: r, _, hn =>
    rw [takeR, if_neg (by simp at hn; omega)]
theorem takeR_one {l : List Int} {n : Nat} (h : 2 ≤ l.length) (he : 256 * (l.getD 0 0).toNat + (l.getD 1 0).toNat = n) (hn : 2 + n ≤ l.length) :
    takeR l = ((l.drop 2).take n :: (takeR (l.drop (2 + n))).1, 2 + n + (takeR (l.drop (2 + n))).2) := by
  match l, h, he, hn with
  | a :: b :: r, _, he, hn =>
    simp at he hn
    subst he
    rw [takeR, if_pos (by omega)]
    simp [show 2 + (256 * a.toNat + b.toNat) = (256 * a.toNat + b.toNat) + 2 by omega]
theorem takeR_le : ∀ (n : Nat) (l : List Int), l.length ≤ n → (takeR l).2 ≤ l.length ∧ 2 * (takeR l).1.length ≤ l.length
  | n, [], _ => by rw [takeR]; simp
  | n, [a], _ => by rw [takeR]; simp
  | 0, a :: b :: r, h => by simp at h
  | n + 1, a :: b :: r, h => by
    by_cases hn : 256 * a.toNat + b.toNat ≤ r.length
    · rw [takeR, if_pos hn]
      have ih := takeR_le n (r.drop (256 * a.toNat + b.toNat)) (by simp at h ⊢; omega)
      simp at ih ⊢
      omega
    · rw [takeR, if_neg hn]; simp
/-- What is taken is taken of whatever goes on. -/
theorem takeR_more : ∀ (n : Nat) (x y : List Int), x.length ≤ n →
    takeR (x ++ y) = ((takeR x).1 ++ (takeR (x.drop (takeR x).2 ++ y)).1, (takeR x).2 + (takeR (x.drop (takeR x).2 ++ y)).2)
  | n, [], y, _ => by rw [show takeR [] = ([], 0) by rw [takeR]]; simp
  | n, [a], y, _ => by rw [show takeR [a] = ([], 0) by rw [takeR]]; simp
  | 0, a :: b :: r, y, h => by simp at h
  | n + 1, a :: b :: r, y, h => by
    by_cases hn : 256 * a.toNat + b.toNat ≤ r.length
    · have ih := takeR_more n (r.drop (256 * a.toNat + b.toNat)) y (by simp at h ⊢; omega)
      have e1 : takeR (a :: b :: r) = (r.take (256 * a.toNat + b.toNat) :: (takeR (r.drop (256 * a.toNat + b.toNat))).1, 2 + (256 * a.toNat + b.toNat) + (takeR (r.drop (256 * a.toNat + b.toNat))).2) := by
        rw [takeR, if_pos hn]
      have e2 : takeR (a :: b :: r ++ y) = (r.take (256 * a.toNat + b.toNat) :: (takeR (r.drop (256 * a.toNat + b.toNat) ++ y)).1, 2 + (256 * a.toNat + b.toNat) + (takeR (r.drop (256 * a.toNat + b.toNat) ++ y)).2) := by
        rw [List.cons_append, List.cons_append, takeR, if_pos (by simp; omega)]
        rw [List.take_append_of_le_length hn, List.drop_append_of_le_length hn]
      generalize 256 * a.toNat + b.toNat = m at ih e1 e2
      have e3 : (a :: b :: r).drop (2 + m + (takeR (r.drop m)).2) = (r.drop m).drop (takeR (r.drop m)).2 := by
        rw [show 2 + m + (takeR (r.drop m)).2 = (m + (takeR (r.drop m)).2) + 2 by omega]
        simp [List.drop_drop]
      rw [e2, ih, e1]
      simp only [e3, List.cons_append]
      rw [Nat.add_assoc (2 + m)]
    · rw [show takeR (a :: b :: r) = ([], 0) by rw [takeR, if_neg hn]]; simp

/-! ### what is framed is taken -/
def short (ls : List (List Int)) : Prop := ∀ l ∈ ls, l.length ≤ 65535
def framesL : List (List Int) → List Int
  | [] => []
  | b :: r => [((b.length / 256 : Nat) : Int), ((b.length % 256 : Nat) : Int)] ++ b ++ framesL r
theorem framesF_short : ∀ (ls : List (List Int)) (out : List Int), short ls → framesF out ls = (out ++ framesL ls, 0)
  | [], out, _ => by simp [framesF, framesL]
  | b :: r, out, h => by
    rw [framesF, if_neg (by have := h b (by simp); omega), framesF_short r _ (fun l hl => h l (by simp [hl]))]
    simp [framesL]
theorem framesF_long : ∀ (ls : List (List Int)) (out : List Int), ¬ short ls → framesF out ls = ([], 3)
  | [], out, h => absurd (fun l hl => by simp at hl) h
  | b :: r, out, h => by
    by_cases hb : 65535 < b.length
    · rw [framesF, if_pos hb]
    · rw [framesF, if_neg hb, framesF_long r _ (fun hr => h (fun l hl => by
        rcases List.mem_cons.1 hl with rfl | hl
        · omega
        · exact hr l hl))]
theorem framesL_append : ∀ (a b : List (List Int)), framesL (a ++ b) = framesL a ++ framesL b
  | [], b => rfl
  | x :: a, b => by simp [framesL, framesL_append a b]
theorem framesL_len : ∀ (ls : List (List Int)), short ls → (framesL ls).length ≤ 65537 * ls.length
  | [], _ => by simp [framesL]
  | b :: r, h => by
    have := framesL_len r (fun l hl => h l (by simp [hl]))
    have := h b (by simp)
    simp [framesL]; omega
theorem takeR_frames : ∀ (ls : List (List Int)), takeR (framesL ls) = (ls, (framesL ls).length)
  | [] => by rw [framesL, takeR]; rfl
  | b :: r => by
    rw [framesL]
    simp only [List.cons_append, List.nil_append]
    rw [takeR]
    have e : 256 * (((b.length / 256 : Nat) : Int)).toNat + (((b.length % 256 : Nat) : Int)).toNat = b.length := by omega
    rw [e, if_pos (by simp), List.take_left, List.drop_left, takeR_frames r]
    simp; omega
end Go.Proofs.Ytkcffggjggedjaa
