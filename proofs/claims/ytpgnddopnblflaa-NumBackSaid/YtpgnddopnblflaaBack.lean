/- What NumBack says of num's plain functions: bytes come back from their digits, numbers from their places. Plain. -/
import Derived.Test.YtpgnddopnblflaaPartsWalk
import Derived.Test.YtpgnddopnblflaaHex
import Derived.Test.YtpgnddopnblflaaBe
namespace Go.Proofs.Ytpgnddopnblflaa
open Go.RowKit

/-! ### digits -/
theorem hexValue_digit (d : Nat) (h : d < 16) : hexValue (hexDigit d) = d := by
  have : ∀ d : Nat, d < 16 → hexValue (hexDigit d) = d := by decide
  exact this d h
theorem ofNat_num (x : Int) (h0 : 0 ≤ x) (h1 : x ≤ 255) : ((UInt8.ofNat x.toNat).toNat : Int) = x := by
  obtain ⟨n, rfl⟩ := Int.eq_ofNat_of_zero_le h0
  simp
  omega
theorem unhex_hex : ∀ (l : List UInt8) (out : List Int), unhexLoop out ((hexList l).map fun n => UInt8.ofNat n.toNat) = (strOfNums (out ++ l.map fun c => (c.toNat : Int)), true)
  | [], out => by simp [hexList, unhexLoop]
  | c :: l, out => by
    have hc := UInt8.toNat_lt c
    have e1 : ((c.toNat : Int) / 16) = ((c.toNat / 16 : Nat) : Int) := by omega
    have e2 : ((c.toNat : Int) % 16) = ((c.toNat % 16 : Nat) : Int) := by omega
    have r1 := hexDigit_range (n := ((c.toNat / 16 : Nat) : Int)) (by omega) (by omega)
    have r2 := hexDigit_range (n := ((c.toNat % 16 : Nat) : Int)) (by omega) (by omega)
    have u1 := ofNat_num _ r1.1 r1.2
    have u2 := ofNat_num _ r2.1 r2.2
    rw [hexList, e1, e2, List.map_cons, List.map_cons, unhexLoop, u1, u2, hexValue_digit _ (by omega), hexValue_digit _ (by omega), if_pos (by omega), unhex_hex l]
    have e3 : (16 : Int) * ((c.toNat / 16 : Nat) : Int) + ((c.toNat % 16 : Nat) : Int) = (c.toNat : Int) := by omega
    rw [e3, List.map_cons, List.append_assoc]; rfl
theorem unhexF_hexF (s : ByteArray) : unhexF (hexF s) = (s, true) := by
  unfold unhexF hexF
  rw [strOfNums_data, unhex_hex]
  congr 1
  unfold strOfNums
  rw [List.nil_append, List.map_map]
  have : (fun n : Int => UInt8.ofNat n.toNat) ∘ (fun c : UInt8 => ((c.toNat : Nat) : Int)) = id := by funext c; simp
  rw [this, List.map_id]

/-! ### numbers in their places -/
theorem getLoop_snoc : ∀ (l : List UInt8) (acc : Nat) (c : UInt8), getLoop acc (l ++ [c]) = 256 * getLoop acc l + c.toNat
  | [], _, _ => rfl
  | d :: l, acc, c => getLoop_snoc l _ c
theorem getLoop_be : ∀ (k n : Nat), n < 256 ^ k → getLoop 0 (be k n) = n
  | 0, n, h => by simp at h; subst h; rfl
  | k + 1, n, h => by
    rw [Nat.pow_succ] at h
    rw [be, getLoop_snoc, getLoop_be k (n / 256) (by omega)]
    simp
    omega
theorem flat_len (m : Nat) (l : List Int) : (l.flatMap fun x => be m x.toNat).length = m * l.length := by
  induction l with
  | nil => simp
  | cons x l ih => simp [ih, be_len, Nat.mul_add]; omega
theorem flat_at (m : Nat) : ∀ (l : List Int) (i : Nat) (h : i < l.length), (((l.flatMap fun x => be m x.toNat).drop (i * m)).take m) = be m (l[i]).toNat
  | x :: l, 0, _ => by simp [be_len]
  | x :: l, i + 1, h => by
    have ih := flat_at m l i (by simpa using h)
    rw [List.flatMap_cons, Nat.add_mul, Nat.one_mul, Nat.add_comm, ← List.drop_drop, List.drop_left' (be_len m _), ih]
    rfl
theorem joinLoop_flat (m : Nat) (h0 : 0 < m) (h6 : m ≤ 6) : ∀ (l : List Int) (out : ByteArray), (joinLoop m out l).2 = 0 →
    (∀ x ∈ l, 0 ≤ x ∧ x.toNat < 256 ^ m) ∧ (joinLoop m out l).1.data.toList = out.data.toList ++ l.flatMap fun x => be m x.toNat
  | [], out, _ => by simp [joinLoop]
  | n :: l, out, h => by
    rw [joinLoop] at h ⊢
    by_cases hp : (putF n m).2 = 0
    · rw [if_pos hp] at h ⊢
      have hn : 0 ≤ n := by
        rcases Int.lt_or_le n 0 with h1 | h1
        · rw [putF_bad (by omega)] at hp; simp at hp
        · exact h1
      obtain ⟨q, rfl⟩ := Int.eq_ofNat_of_zero_le hn
      have hq := putF_nat q m h0 h6
      have hlt : q < 256 ^ m := by
        rcases Nat.lt_or_ge q (256 ^ m) with h1 | h1
        · exact h1
        · rw [hq, if_neg (by omega)] at hp; simp at hp
      rw [if_pos hlt] at hq
      obtain ⟨h1, h2⟩ := joinLoop_flat m h0 h6 l _ h
      refine ⟨fun x hx => ?_, ?_⟩
      · rcases List.mem_cons.1 hx with rfl | hx
        · exact ⟨hn, by simpa using hlt⟩
        · exact h1 x hx
      · rw [h2, hq]
        simp
    · rw [if_neg hp] at h
      exact absurd h hp
theorem joinLoop_none (width : Int) : ∀ (l : List Int) (out : ByteArray), (joinLoop width out l).2 ≠ 0 → (joinLoop width out l).1 = ⟨#[]⟩
  | [], _, h => absurd rfl h
  | n :: l, out, h => by
    rw [joinLoop] at h ⊢
    split at h <;> rename_i hp
    · rw [if_pos hp]; exact joinLoop_none width l _ h
    · rw [if_neg hp]
theorem joinF_none {width : Int} {l : List Int} (h : (joinF width l).2 ≠ 0) : joinF width l = (⟨#[]⟩, 1) := by
  have he := (joinF_err width l).resolve_left h
  have h1 : (joinF width l).1 = ⟨#[]⟩ := by
    unfold joinF at h ⊢
    split at h <;> rename_i hw
    · rw [if_pos hw]; exact joinLoop_none width l _ h
    · rw [if_neg hw]
  exact Prod.ext h1 he
/-- What is joined is got one by one; behind it there is nothing. -/
theorem joinF_got {width : Int} {l : List Int} (h : (joinF width l).2 = 0) : ∃ m : Nat, width = m ∧ 0 < m ∧ m ≤ 6 ∧ (joinF width l).1.size = m * l.length ∧
    (∀ i (hi : i < l.length), getF (joinF width l).1 ((i * m : Nat) : Int) m = (l[i], 0)) ∧ getF (joinF width l).1 ((joinF width l).1.size : Int) m = (0, 2) := by
  by_cases hw : 0 < width ∧ width ≤ 6
  · obtain ⟨m, rfl⟩ := Int.eq_ofNat_of_zero_le (Int.le_of_lt hw.1)
    have e : joinF m l = joinLoop m ⟨#[]⟩ l := if_pos hw
    rw [e] at h ⊢
    obtain ⟨h1, h2⟩ := joinLoop_flat m (by omega) (by omega) l _ h
    generalize (joinLoop m ⟨#[]⟩ l).1 = j at h2
    have h2' : j.data.toList = l.flatMap fun x => be m x.toNat := by simpa using h2
    have hz : j.size = m * l.length := by
      have : j.data.toList.length = j.size := by simp
      rw [← this, h2', flat_len]
    refine ⟨m, rfl, by omega, by omega, hz, fun i hi => ?_, ?_⟩
    · have hle : i * m + m ≤ j.size := by
        rw [hz, Nat.mul_comm m, ← Nat.succ_mul]
        exact Nat.mul_le_mul_right m hi
      rw [getF_got ⟨by omega, by omega, by omega, by omega⟩ (by omega), Int.toNat_natCast, Int.toNat_natCast]
      have hl : ((j.extract (i * m) j.size).extract 0 m).data.toList = be m (l[i]).toNat := by
        rw [← flat_at m l i hi, ← h2']
        simp only [ByteArray.data_extract, Array.toList_extract, List.extract_eq_take_drop, List.drop_zero, Nat.sub_zero, List.take_take]
        congr 1
        omega
      have hx := h1 l[i] (List.getElem_mem hi)
      rw [hl, getLoop_be m _ hx.2, Int.toNat_of_nonneg hx.1]
    · rw [getF_short ⟨by omega, by omega, by omega, by omega⟩ (by omega)]
  · have e : joinF width l = (⟨#[]⟩, 1) := if_neg hw
    rw [e] at h
    simp at h
end Go.Proofs.Ytpgnddopnblflaa
