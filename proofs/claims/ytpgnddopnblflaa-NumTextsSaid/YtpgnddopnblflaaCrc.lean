/- The check sum over GF(2): it is linear, and no letter can be turned without its turning. Plain. -/
import Derived.Test.YtpgnddopnblflaaSumsWalk
namespace Go.Proofs.Ytpgnddopnblflaa
open Go.RowKit

/-! ### words of 32 bits -/
theorem ofInt_nat (n : Nat) (v : Nat) : BitVec.ofInt n ((v : Nat) : Int) = BitVec.ofNat n v := by simp
theorem wrap_nat {n : Nat} (h : n < 4294967296) : IntKind.u32.wrap (n : Int) = n := by rw [IntKind.wrap_u32]; omega
theorem bits_xor32 (a b : BitVec 32) : bits .xor .u32 (a.toNat : Int) (b.toNat : Int) = ((a ^^^ b).toNat : Int) := by
  have h1 : BitVec.ofInt IntKind.u32.bits (a.toNat : Int) = a := by show BitVec.ofInt 32 _ = a; rw [ofInt_nat]; simp
  have h2 : BitVec.ofInt IntKind.u32.bits (b.toNat : Int) = b := by show BitVec.ofInt 32 _ = b; rw [ofInt_nat]; simp
  unfold bits
  simp only [h1, h2]
  exact wrap_nat (a ^^^ b).isLt
theorem bits_and32 (a b : BitVec 32) : bits .and .u32 (a.toNat : Int) (b.toNat : Int) = ((a &&& b).toNat : Int) := by
  have h1 : BitVec.ofInt IntKind.u32.bits (a.toNat : Int) = a := by show BitVec.ofInt 32 _ = a; rw [ofInt_nat]; simp
  have h2 : BitVec.ofInt IntKind.u32.bits (b.toNat : Int) = b := by show BitVec.ofInt 32 _ = b; rw [ofInt_nat]; simp
  unfold bits
  simp only [h1, h2]
  exact wrap_nat (a &&& b).isLt

def crcV (r : BitVec 32) : BitVec 32 := (r >>> 1) ^^^ (if r.getLsbD 0 then 0xEDB88320#32 else 0#32)
theorem and_one (r : BitVec 32) : r &&& 1#32 = if r.getLsbD 0 then 1#32 else 0#32 := by
  apply BitVec.eq_of_getLsbD_eq
  intro i hi
  rw [BitVec.getLsbD_and]
  by_cases h0 : i = 0
  · subst h0; split <;> simp_all
  · have : (1#32 : BitVec 32).getLsbD i = false := by simp [h0]
    rw [this]
    split <;> simp [h0]
theorem crcBit_eq (r : BitVec 32) : crcBit (r.toNat : Int) = ((crcV r).toNat : Int) := by
  have e1 : (r.toNat : Int) / (2 : Int) = ((r >>> 1).toNat : Int) := by
    rw [BitVec.toNat_ushiftRight, Nat.shiftRight_eq_div_pow]; omega
  have e2 : bits .and .u32 (r.toNat : Int) 1 = ((r &&& 1#32).toNat : Int) := bits_and32 r 1#32
  unfold crcBit
  rw [e1, e2, and_one]
  by_cases h : r.getLsbD 0 = true
  · rw [if_pos h]
    have e3 : (-((1#32 : BitVec 32).toNat : Int)) % 4294967296 = ((0xFFFFFFFF#32 : BitVec 32).toNat : Int) := by decide
    have e4 : bits .and .u32 3988292384 ((0xFFFFFFFF#32 : BitVec 32).toNat : Int) = ((0xEDB88320#32 : BitVec 32).toNat : Int) := (bits_and32 0xEDB88320#32 0xFFFFFFFF#32).trans (by decide)
    rw [e3, e4, bits_xor32]
    unfold crcV
    rw [if_pos h]
  · rw [if_neg h]
    have e3 : (-((0#32 : BitVec 32).toNat : Int)) % 4294967296 = ((0#32 : BitVec 32).toNat : Int) := by decide
    have e4 : bits .and .u32 3988292384 ((0#32 : BitVec 32).toNat : Int) = ((0#32 : BitVec 32).toNat : Int) := (bits_and32 0xEDB88320#32 0#32).trans (by decide)
    rw [e3, e4, bits_xor32]
    unfold crcV
    rw [if_neg h]
theorem crcV_xor (r s : BitVec 32) : crcV (r ^^^ s) = crcV r ^^^ crcV s := by
  unfold crcV
  rw [BitVec.ushiftRight_xor_distrib, BitVec.getLsbD_xor]
  cases r.getLsbD 0 <;> cases s.getLsbD 0 <;> simp
  · rw [BitVec.xor_assoc]
  · rw [BitVec.xor_assoc, BitVec.xor_assoc]
    congr 1
    rw [BitVec.xor_comm]
  · rw [BitVec.xor_assoc, ← BitVec.xor_assoc (0xEDB88320#32) (s >>> 1), BitVec.xor_comm (0xEDB88320#32) (s >>> 1), BitVec.xor_assoc, BitVec.xor_self, BitVec.xor_zero]
theorem crcV_zero {d : BitVec 32} (h : crcV d = 0#32) : d = 0#32 := by
  unfold crcV at h
  by_cases hl : d.getLsbD 0 = true
  · rw [if_pos hl] at h
    have h2 := congrArg (fun v => v.getLsbD 31) h
    simp at h2
  · rw [if_neg hl, BitVec.xor_zero] at h
    have h2 := congrArg BitVec.toNat h
    rw [BitVec.toNat_ushiftRight, Nat.shiftRight_eq_div_pow] at h2
    have h3 : d.toNat % 2 = 0 := by
      simp [BitVec.getLsbD, Nat.testBit_zero] at hl
      omega
    apply BitVec.eq_of_toNat_eq
    simp at h2 ⊢
    omega
theorem xor_eq_zero {r s : BitVec 32} (h : r ^^^ s = 0#32) : r = s := by
  have : r ^^^ s ^^^ s = 0#32 ^^^ s := by rw [h]
  rwa [BitVec.xor_assoc, BitVec.xor_self, BitVec.xor_zero, BitVec.zero_xor] at this
theorem crcV_inj {r s : BitVec 32} (h : crcV r = crcV s) : r = s := by
  have : crcV (r ^^^ s) = 0#32 := by rw [crcV_xor, h, BitVec.xor_self]
  exact xor_eq_zero (crcV_zero this)

/-! ### eight bits; a text -/
def crcVs : Nat → BitVec 32 → BitVec 32
  | 0, r => r
  | j + 1, r => crcVs j (crcV r)
theorem crcBits_eq : ∀ (j : Nat) (r : BitVec 32), crcBits j (r.toNat : Int) = ((crcVs j r).toNat : Int)
  | 0, _ => rfl
  | j + 1, r => by rw [crcBits, crcBit_eq, crcBits_eq j]; rfl
theorem crcVs_xor : ∀ (j : Nat) (r s : BitVec 32), crcVs j (r ^^^ s) = crcVs j r ^^^ crcVs j s
  | 0, _, _ => rfl
  | j + 1, r, s => by rw [crcVs, crcV_xor, crcVs_xor j]; rfl
theorem crcVs_inj : ∀ (j : Nat) {r s : BitVec 32}, crcVs j r = crcVs j s → r = s
  | 0, _, _, h => h
  | j + 1, _, _, h => crcV_inj (crcVs_inj j h)
def wide8 (c : UInt8) : BitVec 32 := BitVec.ofNat 32 c.toNat
theorem wide8_nat (c : UInt8) : (wide8 c).toNat = c.toNat := by
  simp [wide8]
theorem wide8_xor (a b : UInt8) : wide8 (a ^^^ b) = wide8 a ^^^ wide8 b := by
  apply BitVec.eq_of_toNat_eq
  rw [BitVec.toNat_xor, wide8_nat, wide8_nat, wide8_nat, UInt8.toNat_xor]
theorem wide8_inj {a b : UInt8} (h : wide8 a = wide8 b) : a = b := by
  have := congrArg BitVec.toNat h
  rw [wide8_nat, wide8_nat] at this
  exact UInt8.toNat_inj.1 this
def crcL : BitVec 32 → List UInt8 → BitVec 32
  | r, [] => r
  | r, c :: l => crcL (crcVs 8 (r ^^^ wide8 c)) l
theorem crcLoop_eq : ∀ (l : List UInt8) (r : BitVec 32), crcLoop (r.toNat : Int) l = ((crcL r l).toNat : Int)
  | [], _ => rfl
  | c :: l, r => by
    have : bits .xor .u32 (r.toNat : Int) (c.toNat : Int) = ((r ^^^ wide8 c).toNat : Int) := by rw [← wide8_nat c]; exact bits_xor32 r (wide8 c)
    rw [crcLoop, this, crcBits_eq, crcLoop_eq l]; rfl
theorem crcF_eq (s : ByteArray) : crcF s = ((crcL 0xFFFFFFFF#32 s.data.toList ^^^ 0xFFFFFFFF#32).toNat : Int) := by
  have h := crcLoop_eq s.data.toList 0xFFFFFFFF#32
  have e : (((0xFFFFFFFF#32 : BitVec 32).toNat : Nat) : Int) = 4294967295 := by decide
  rw [e] at h
  unfold crcF
  rw [h, ← e, bits_xor32]

/-- Three texts of one length taken together. -/
theorem crcL_three : ∀ (a b c : List UInt8) (r s t : BitVec 32), b.length = a.length → c.length = a.length →
    crcL (r ^^^ s ^^^ t) (List.zipWith (· ^^^ ·) (List.zipWith (· ^^^ ·) a b) c) = crcL r a ^^^ crcL s b ^^^ crcL t c
  | [], [], [], _, _, _, _, _ => rfl
  | [], _ :: _, _, _, _, _, h, _ => by simp at h
  | [], _, _ :: _, _, _, _, _, h => by simp at h
  | _ :: _, [], _, _, _, _, h, _ => by simp at h
  | _ :: _, _, [], _, _, _, _, h => by simp at h
  | x :: a, y :: b, z :: c, r, s, t, hb, hc => by
    have ih := crcL_three a b c (crcVs 8 (r ^^^ wide8 x)) (crcVs 8 (s ^^^ wide8 y)) (crcVs 8 (t ^^^ wide8 z)) (by simpa using hb) (by simpa using hc)
    simp only [List.zipWith_cons_cons, crcL]
    rw [← ih, wide8_xor, wide8_xor, ← crcVs_xor, ← crcVs_xor]
    congr 2
    ac_rfl
theorem crcL_inj : ∀ (l : List UInt8) {r s : BitVec 32}, crcL r l = crcL s l → r = s
  | [], _, _, h => h
  | c :: l, r, s, h => by
    have h2 := crcVs_inj 8 (crcL_inj l h)
    have : r ^^^ wide8 c ^^^ wide8 c = s ^^^ wide8 c ^^^ wide8 c := by rw [h2]
    rwa [BitVec.xor_assoc, BitVec.xor_self, BitVec.xor_zero, BitVec.xor_assoc, BitVec.xor_self, BitVec.xor_zero] at this
theorem crcL_append : ∀ (a b : List UInt8) (r : BitVec 32), crcL r (a ++ b) = crcL (crcL r a) b
  | [], _, _ => rfl
  | c :: a, b, r => crcL_append a b _

/-! ### NumSums' two laws -/
theorem bits_xor8 (a b : UInt8) : bits .xor .u8 ((a.toNat : Nat) : Int) ((b.toNat : Nat) : Int) = ((a ^^^ b).toNat : Int) := by
  have h1 : BitVec.ofInt IntKind.u8.bits (a.toNat : Int) = a.toBitVec := by show BitVec.ofInt 8 _ = _; rw [ofInt_nat]; simp
  have h2 : BitVec.ofInt IntKind.u8.bits (b.toNat : Int) = b.toBitVec := by show BitVec.ofInt 8 _ = _; rw [ofInt_nat]; simp
  unfold bits
  simp only [h1, h2]
  have h3 : (((a.toBitVec ^^^ b.toBitVec).toNat : Nat) : Int) = ((a ^^^ b).toNat : Int) := rfl
  show IntKind.u8.wrap (((a.toBitVec ^^^ b.toBitVec).toNat : Nat) : Int) = _
  rw [h3, IntKind.wrap_u8]
  have := UInt8.toNat_lt (a ^^^ b)
  omega
theorem xorAll_data (a b c : ByteArray) (hb : b.size = a.size) (hc : c.size = a.size) : (xorAll a b c).data.toList = List.zipWith (· ^^^ ·) (List.zipWith (· ^^^ ·) a.data.toList b.data.toList) c.data.toList := by
  have la : a.data.toList.length = a.size := by simp
  have lb : b.data.toList.length = a.size := by simp [hb]
  have lc : c.data.toList.length = a.size := by simp [hc]
  unfold xorAll
  rw [strOfNums_data]
  apply List.ext_getElem
  · simp [hb, hc]
  · intro i h1 h2
    have hi : i < a.size := by simpa using h1
    have g : ∀ (s : ByteArray) (h : i < s.data.toList.length), byteAt s i = (s.data.toList[i]).toNat := fun s h => by
      unfold byteAt; rw [List.getD_eq_getElem?_getD, List.getElem?_eq_getElem h]; rfl
    rw [List.getElem_map, List.getElem_map, List.getElem_range, List.getElem_zipWith, List.getElem_zipWith]
    unfold xorAt
    rw [g a (by omega), g b (by omega), g c (by omega), bits_xor8, bits_xor8, Int.toNat_natCast, UInt8.ofNat_toNat]
theorem sums_linear (a b c : ByteArray) (hb : b.size = a.size) (hc : c.size = a.size) : crcF (xorAll a b c) = bits .xor .u32 (bits .xor .u32 (crcF a) (crcF b)) (crcF c) := by
  rw [crcF_eq, crcF_eq, crcF_eq, crcF_eq, bits_xor32, bits_xor32, xorAll_data a b c hb hc]
  have h := crcL_three a.data.toList b.data.toList c.data.toList 0xFFFFFFFF#32 0xFFFFFFFF#32 0xFFFFFFFF#32 (by simp [hb]) (by simp [hc])
  rw [BitVec.xor_self, BitVec.zero_xor] at h
  rw [h]
  congr 2
  generalize crcL 0xFFFFFFFF#32 a.data.toList = x
  generalize crcL 0xFFFFFFFF#32 b.data.toList = y
  generalize crcL 0xFFFFFFFF#32 c.data.toList = z
  have e : (0xFFFFFFFF#32 : BitVec 32) = 0xFFFFFFFF#32 ^^^ 0xFFFFFFFF#32 ^^^ 0xFFFFFFFF#32 := by decide
  generalize (0xFFFFFFFF#32 : BitVec 32) = w at e
  rw [show x ^^^ w ^^^ (y ^^^ w) ^^^ (z ^^^ w) = x ^^^ y ^^^ z ^^^ (w ^^^ w ^^^ w) by ac_rfl, ← e]
theorem turned_data (a : ByteArray) (p : Nat) (x : UInt8) (hp : p < a.size) : (turned a p (x.toNat : Nat)).data.toList = a.data.toList.set p (a.data.toList.getD p 0 ^^^ x) := by
  have la : a.data.toList.length = a.size := by simp
  unfold turned
  rw [strOfNums_data, List.map_set]
  have e : ((List.range a.size).map (fun j => ((byteAt a j : Nat) : Int))).map (fun n => UInt8.ofNat n.toNat) = a.data.toList := by
    apply List.ext_getElem (by simp)
    intro i h1 h2
    simp [byteAt, List.getD_eq_getElem?_getD]
    rw [Array.getElem?_eq_getElem (by simpa using h2)]
    rfl
  rw [e]
  congr 1
  unfold byteAt
  rw [bits_xor8, Int.toNat_natCast, UInt8.ofNat_toNat]
theorem sums_turn (a : ByteArray) (at_ x : Int) (h0 : 0 ≤ at_) (h1 : at_ < a.size) (hx : x ≠ 0) (hx0 : 0 ≤ x) (hx1 : x ≤ 255) : crcF (turned a at_.toNat x) ≠ crcF a := by
  obtain ⟨p, rfl⟩ := Int.eq_ofNat_of_zero_le h0
  obtain ⟨y, rfl⟩ := Int.eq_ofNat_of_zero_le hx0
  have hy : (UInt8.ofNat y).toNat = y := by simp; omega
  rw [Int.toNat_natCast, ← hy]
  generalize UInt8.ofNat y = u at hy
  have hu : u ≠ 0 := by rintro rfl; simp at hy; omega
  rw [crcF_eq, crcF_eq, turned_data a p u (by omega)]
  have hp : p < a.data.toList.length := by simp; omega
  generalize a.data.toList = l at hp
  intro h
  have h2 : crcL 0xFFFFFFFF#32 (l.set p (l.getD p 0 ^^^ u)) = crcL 0xFFFFFFFF#32 l := by
    have h3 := BitVec.eq_of_toNat_eq (Int.ofNat_inj.1 h)
    have h4 := congrArg (· ^^^ 0xFFFFFFFF#32) h3
    simp only [BitVec.xor_assoc, BitVec.xor_self, BitVec.xor_zero] at h4
    exact h4
  have e1 : l = l.take p ++ l.getD p 0 :: l.drop (p + 1) := by
    conv => lhs; rw [← List.take_append_drop p l, List.drop_eq_getElem_cons hp]
    rw [List.getD_eq_getElem?_getD, List.getElem?_eq_getElem hp]; rfl
  have e2 : l.set p (l.getD p 0 ^^^ u) = l.take p ++ (l.getD p 0 ^^^ u) :: l.drop (p + 1) := by
    rw [List.set_eq_take_append_cons_drop, if_pos hp]
  rw [e2] at h2
  rw [crcL_append] at h2
  have e3 : crcL 0xFFFFFFFF#32 l = crcL (crcL 0xFFFFFFFF#32 (l.take p)) (l.getD p 0 :: l.drop (p + 1)) := by
    conv => lhs; rw [e1, crcL_append]
  rw [e3] at h2
  simp only [crcL] at h2
  have h5 := crcVs_inj 8 (crcL_inj _ h2)
  have h6 : wide8 (l.getD p 0 ^^^ u) = wide8 (l.getD p 0) := by
    have := congrArg (crcL 0xFFFFFFFF#32 (l.take p) ^^^ ·) h5
    simp only [← BitVec.xor_assoc, BitVec.xor_self, BitVec.zero_xor] at this
    exact this
  have h7 := wide8_inj h6
  have h8 : l.getD p 0 ^^^ (l.getD p 0 ^^^ u) = l.getD p 0 ^^^ l.getD p 0 := by rw [h7]
  rw [← UInt8.xor_assoc, UInt8.xor_self, UInt8.zero_xor] at h8
  exact hu h8
end Go.Proofs.Ytpgnddopnblflaa
