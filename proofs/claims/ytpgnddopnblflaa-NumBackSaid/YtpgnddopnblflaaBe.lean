/- What num.Put writes: the bytes of a number, the greatest first; their order, their number. Plain, no program in sight. -/
import Derived.Test.YtpgnddopnblflaaPut
namespace Go.Proofs.Ytpgnddopnblflaa
open Go.RowKit

def be : Nat → Nat → List UInt8
  | 0, _ => []
  | k + 1, n => be k (n / 256) ++ [UInt8.ofNat (n % 256)]
theorem be_len : ∀ k n, (be k n).length = k
  | 0, _ => rfl
  | k + 1, n => by simp [be, be_len k]

theorem putLoop_spec : ∀ (k n : Nat) (cs : List Int), k ≤ cs.length →
    (putLoop k n cs).1 = ((n / 256 ^ k : Nat) : Int) ∧ (putLoop k n cs).2.drop k = cs.drop k ∧ (putLoop k n cs).2.length = cs.length ∧ ((putLoop k n cs).2.take k).map (fun n => UInt8.ofNat n.toNat) = be k n
  | 0, n, cs, _ => by simp [putLoop, be]
  | k + 1, n, cs, h => by
    have e1 : ((n : Int) / 256) = ((n / 256 : Nat) : Int) := by omega
    have e2 : ((n : Int) % 256) = ((n % 256 : Nat) : Int) := by omega
    obtain ⟨h1, h2, h3, h4⟩ := putLoop_spec k (n / 256) (cs.set k ((n % 256 : Nat) : Int)) (by simp; omega)
    rw [List.length_set] at h3
    have hk : (cs.set k ((n % 256 : Nat) : Int)).drop k = ((n % 256 : Nat) : Int) :: cs.drop (k + 1) := by
      rw [List.drop_eq_getElem_cons (by simp; omega)]
      congr 1
      · simp
      · rw [List.drop_set_of_lt (by omega)]
    rw [putLoop, e1, e2]
    refine ⟨?_, ?_, h3, ?_⟩
    · rw [h1, Nat.pow_succ, Nat.div_div_eq_div_mul, Nat.mul_comm]
    · rw [← List.drop_drop, h2, hk]; simp
    · have hlt : k < (putLoop k ((n / 256 : Nat) : Int) (cs.set k ((n % 256 : Nat) : Int))).2.length := by rw [h3]; omega
      have hel : (putLoop k ((n / 256 : Nat) : Int) (cs.set k ((n % 256 : Nat) : Int))).2[k] = ((n % 256 : Nat) : Int) := by
        have h5 := h2
        rw [hk, List.drop_eq_getElem_cons hlt] at h5
        exact (List.cons.inj h5).1
      rw [List.take_succ_eq_append_getElem hlt, List.map_append, h4, hel, be, List.map_cons, List.map_nil, Int.toNat_natCast]

theorem putF_nat (n width : Nat) (h0 : 0 < width) (h6 : width ≤ 6) : putF n width = if n < 256 ^ width then (⟨(be width n).toArray⟩, 0) else (⟨#[]⟩, 1) := by
  obtain ⟨h1, _, _, h4⟩ := putLoop_spec width n [0, 0, 0, 0, 0, 0] (by simpa using h6)
  have hp : 0 < 256 ^ width := Nat.pow_pos (by decide)
  unfold putF
  rw [if_pos ⟨by omega, by omega, by omega⟩, Int.toNat_natCast, h1]
  by_cases hlt : n < 256 ^ width
  · rw [if_pos hlt, Nat.div_eq_of_lt hlt, if_pos (by rfl)]
    unfold strOfNums
    rw [h4]
  · rw [if_neg hlt, if_neg]
    have := Nat.div_pos (by omega : 256 ^ width ≤ n) hp
    omega

theorem bytesLess_snoc : ∀ (x y : List UInt8) (a b : UInt8), x.length = y.length → Op.bytesLess (x ++ [a]) (y ++ [b]) = (Op.bytesLess x y || (x == y && decide (a < b)))
  | [], [], a, b, _ => by simp [Op.bytesLess]
  | [], _ :: _, _, _, h => by simp at h
  | _ :: _, [], _, _, h => by simp at h
  | c :: x, d :: y, a, b, h => by
    have ih := bytesLess_snoc x y a b (by simpa using h)
    simp only [List.cons_append, Op.bytesLess, ih]
    by_cases h1 : c < d
    · simp [h1]
    · by_cases h2 : (c == d) = true
      · simp [h2, Bool.or_assoc]
      · simp [h1, h2]
theorem be_eq : ∀ (k m n : Nat), m < 256 ^ k → n < 256 ^ k → ((be k m == be k n) = decide (m = n))
  | 0, m, n, hm, hn => by
    have : m = n := by simp at hm hn; omega
    subst this; simp
  | k + 1, m, n, hm, hn => by
    rw [Nat.pow_succ] at hm hn
    have ih := be_eq k (m / 256) (n / 256) (by omega) (by omega)
    have hl : (be k (m / 256)).length = (be k (n / 256)).length := by rw [be_len, be_len]
    rw [Bool.eq_iff_iff]
    simp only [beq_iff_eq, decide_eq_true_eq] at ih ⊢
    rw [Bool.eq_iff_iff] at ih
    simp only [beq_iff_eq, decide_eq_true_eq] at ih
    rw [be, be]
    constructor
    · intro h
      obtain ⟨h1, h2⟩ := List.append_inj h hl
      have h3 := ih.1 h1
      have h4 : UInt8.ofNat (m % 256) = UInt8.ofNat (n % 256) := (List.cons.inj h2).1
      have h5 := congrArg UInt8.toNat h4
      simp at h5
      omega
    · rintro rfl; rfl
theorem be_less : ∀ (k m n : Nat), m < 256 ^ k → n < 256 ^ k → Op.bytesLess (be k m) (be k n) = decide (m < n)
  | 0, m, n, hm, hn => by simp at hm hn; subst hm hn; simp [be, Op.bytesLess]
  | k + 1, m, n, hm, hn => by
    rw [Nat.pow_succ] at hm hn
    have ih := be_less k (m / 256) (n / 256) (by omega) (by omega)
    have he := be_eq k (m / 256) (n / 256) (by omega) (by omega)
    rw [be, be, bytesLess_snoc _ _ _ _ (by rw [be_len, be_len]), ih, he, Bool.eq_iff_iff]
    simp only [Bool.or_eq_true, Bool.and_eq_true, decide_eq_true_eq, UInt8.lt_iff_toNat_lt]
    simp
    omega
end Go.Proofs.Ytpgnddopnblflaa
