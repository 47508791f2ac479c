/- rhzlaw1.first answers true. -/
import Derived.Test.YtpgnddopnblflaaNum2
namespace Go.Proofs.Ytpgnddopnblflaa
open Go.RowKit

theorem put_258 : putF 258 2 = (⟨#[1, 2]⟩, 0) := by kernel_rfl
theorem join_34 : joinF 1 [3, 4] = (⟨#[3, 4]⟩, 0) := by kernel_rfl

set_option maxHeartbeats 400000 in
theorem first_any (w : World) : Calls Try.prog 9 #[] w fun e w' => e = .returned (.bool true) ∧ Below w.heap.size w w' := by
  go_enter Try.func9, Try.ntmps9
  go_wp2_with (go_at_call 11; refine (put_any 258 2 _ (by omega)).mono ?_; rw [put_258]; rintro e w1 ⟨rfl, hb1⟩)
  refine (join_any 1 _ [3, 4] 2 _ (by decide) (by decide) (ints_lit w1 .i64 3 [3, 4])).mono ?_
  rw [join_34]
  rintro e w2 ⟨rfl, hb2⟩
  have hb := below_then ((hb1.alloc hb1.size _)) hb2
  clear hb1 hb2
  go_wp2
  go_ret
  exact ⟨rfl, hb⟩
end Go.Proofs.Ytpgnddopnblflaa
