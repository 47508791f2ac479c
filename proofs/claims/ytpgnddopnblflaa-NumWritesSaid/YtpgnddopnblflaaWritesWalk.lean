/- rhzlaw1.NumWrites: the walk: whatever came in, the call answers true and writes nothing that was there. -/
import Derived.Test.YtpgnddopnblflaaRef1
namespace Go.Proofs.Ytpgnddopnblflaa
open Go.RowKit

set_option maxHeartbeats 2000000 in
theorem writes_walk (n width : Int) (A : Option Addr) (l : List Int) (ca : Nat) (s : ByteArray) (at_ : Int) (w : World) (hn : n ≤ 9223372036854775807) (hl : ∀ x ∈ l, x ≤ 9223372036854775807) (nl : l.length ≤ 9223372036854775807) (hs : s.size ≤ 9223372036854775807) (hA : Ints .i64 w A l) :
    Calls Try.prog 6 #[.int .i64 n, .int .i64 width, .slice A l.length ca, .string s, .int .i64 at_] w fun e w' => e = .returned (.bool true) ∧ Below w.heap.size w w' := by
  have hB0 := Below.refl w.heap.size w
  have HA := Lib.hid hA
  have HL := Lib.hid hl
  clear hA hl
  by_cases h1 : 8000 < s.size
  · go_enter Try.func6, Try.ntmps6
    go_wp2_with (go_at_call 9; refine (first_any _).mono ?_; rintro e w1 ⟨rfl, hb1⟩; replace hB0 := below_then hB0 hb1; clear hb1)
    all_goals
      go_ret
      exact ⟨rfl, hB0⟩
  · by_cases h2 : 500 < l.length
    · go_enter Try.func6, Try.ntmps6
      go_wp2_with (go_at_call 9; refine (first_any _).mono ?_; rintro e w1 ⟨rfl, hb1⟩; replace hB0 := below_then hB0 hb1; clear hb1)
      all_goals
        go_ret
        exact ⟨rfl, hB0⟩
    · generalize hp : putF n width = P
      generalize hj : joinF width l = J
      generalize hg : getF s at_ width = G
      have HP := Lib.hid hp
      have HJ := Lib.hid hj
      have HG := Lib.hid hg
      clear hp hj hg
      go_enter Try.func6, Try.ntmps6
      go_wp2_with (first
        | (go_at_call 9; refine (first_any _).mono ?_; rintro e w1 ⟨rfl, hb1⟩; replace hB0 := below_then hB0 hb1; clear hb1)
        | (go_at_call 11; refine (put_any n width _ hn).mono ?_; rw [HP.out]; rintro e w1 ⟨rfl, hb1⟩; replace hB0 := below_then hB0 hb1; clear hb1)
        | (go_at_call 13; refine (refPut_any n width _ hn).mono ?_; rw [HP.out]; rintro e w1 ⟨rfl, hb1⟩; replace hB0 := below_then hB0 hb1; clear hb1)
        | (go_at_call 10; refine (join_any width A l ca _ (by omega) HL.out (HA.out.below hB0)).mono ?_; rw [HJ.out]; rintro e w1 ⟨rfl, hb1⟩; replace hB0 := below_then hB0 hb1; clear hb1)
        | (go_at_call 14; refine (refJoin_any width A l ca _ (by omega) HL.out (HA.out.below hB0)).mono ?_; rw [HJ.out]; rintro e w1 ⟨rfl, hb1⟩; replace hB0 := below_then hB0 hb1; clear hb1)
        | (go_at_call 15; refine (get_any s at_ width _).mono ?_; rw [HG.out]; rintro e w1 ⟨rfl, hb1⟩; replace hB0 := below_then hB0 hb1; clear hb1)
        | (go_at_call 16; refine (refGet_any s at_ width _ hs).mono ?_; rw [HG.out]; rintro e w1 ⟨rfl, hb1⟩; replace hB0 := below_then hB0 hb1; clear hb1))
      go_ret
      exact ⟨rfl, hB0⟩
end Go.Proofs.Ytpgnddopnblflaa
