/- rhzlaw1.NumTexts: the walk: whatever came in, the call answers true and writes nothing that was there. -/
import Derived.Test.YtpgnddopnblflaaRefTexts
namespace Go.Proofs.Ytpgnddopnblflaa
open Go.RowKit

set_option maxHeartbeats 2000000 in
theorem texts_walk (s : ByteArray) (w : World) (hs : s.size ≤ 9223372036854775807) :
    Calls Try.prog 7 #[.string s] w fun e w' => e = .returned (.bool true) ∧ Below w.heap.size w w' := by
  have hB0 := Below.refl w.heap.size w
  by_cases h1 : 8000 < s.size
  · go_enter Try.func7, Try.ntmps7
    go_wp2_with (go_at_call 9; refine (first_any _).mono ?_; rintro e w1 ⟨rfl, hb1⟩; replace hB0 := below_then hB0 hb1; clear hb1)
    all_goals
      go_ret
      exact ⟨rfl, hB0⟩
  · generalize hu : unhexF s = U
    generalize hx : hexF s = X
    generalize hc : crcF s = C
    have HU := Lib.hid hu
    have HX := Lib.hid hx
    have HC := Lib.hid hc
    clear hu hx hc
    go_enter Try.func7, Try.ntmps7
    go_wp2_with (first
      | (go_at_call 9; refine (first_any _).mono ?_; rintro e w1 ⟨rfl, hb1⟩; replace hB0 := below_then hB0 hb1; clear hb1)
      | (go_at_call 17; refine (unhex_any s _ (by omega)).mono ?_; rw [HU.out]; rintro e w1 ⟨rfl, hb1⟩; replace hB0 := below_then hB0 hb1; clear hb1)
      | (go_at_call 18; refine (refUnhex_any s _ (by omega)).mono ?_; rw [HU.out]; rintro e w1 ⟨rfl, hb1⟩; replace hB0 := below_then hB0 hb1; clear hb1)
      | (go_at_call 19; refine (hex_any s _ (by omega)).mono ?_; rw [HX.out]; rintro e w1 ⟨rfl, hb1⟩; replace hB0 := below_then hB0 hb1; clear hb1)
      | (go_at_call 20; refine (refHex_any s _ (by omega)).mono ?_; rw [HX.out]; rintro e w1 ⟨rfl, hb1⟩; replace hB0 := below_then hB0 hb1; clear hb1)
      | (go_at_call 12; refine (crc_any s _ (by omega)).mono ?_; rw [HC.out]; rintro e w1 ⟨rfl, hb1⟩; replace hB0 := below_then hB0 hb1; clear hb1)
      | (go_at_call 21; refine (refCrc_any s _ (by omega)).mono ?_; rw [HC.out]; rintro e w1 ⟨rfl, hb1⟩; replace hB0 := below_then hB0 hb1; clear hb1))
    go_ret
    exact ⟨rfl, hB0⟩
end Go.Proofs.Ytpgnddopnblflaa
