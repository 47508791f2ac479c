/- The document's reader: Feed. -/
import Derived.Test.YtkcffggjggedjaaFrFeed
import Derived.Deep.RegionLaw
namespace Go.Proofs.Ytkcffggjggedjaa
open Go.RowKit

set_option maxHeartbeats 2000000 in
theorem feedB_over (g : Nat) (most had : Int) (v : Value) (over : Bool) (A : Option Addr) (ls : List (List Int)) (c : Nat) (w : World) (hl : ls.length ≤ 1000000) (h0 : 0 ≤ had) (hH : had + tot ls ≤ 4611686018427387904)
    (hg : RdB w g most had v over) (hA : ∀ wr, Tch g v.ownBlock w wr → Rows wr A ls) (ho : over = true ∨ most < had + tot ls) :
    Calls Try.prog 20 #[.pointer (some ⟨g, 0, none⟩), .slice A ls.length c] w fun e w' => Tch g v.ownBlock w w' ∧ e = .returned (.tuple #[.slice none 0 0, .int .i64 13]) ∧ RdB w' g most (had + tot ls) (.slice none 0 0) true := by
  have HA := Lib.hid hA
  have HG := Lib.hid hg
  have HO := Lib.hid ho
  clear hA hg ho
  generalize hh : had + (tot ls : Int) = H at hH HO ⊢
  have HH := Lib.hid hh
  clear hh
  go_enter Try.func20, Try.ntmps20
  go_wp2
  go_loopw [6] (fun vi wr => ∃ (k : Nat) (h : Int), k ≤ ls.length ∧ 0 ≤ h ∧ vi = .int .i64 k ∧ Hid (h + (tot (ls.drop k) : Int) = H) ∧ Hid (RdB wr g most h v over) ∧ Hid (Tch g v.ownBlock w wr)) (fun vi _ => ls.length - (intOf vi).toNat)
  case atStart => exact ⟨0, had, by omega, h0, rfl, HH, HG, Tch.refl _ _ _⟩
  case round =>
    obtain ⟨k, h, hk, hh0, rfl, hs, hr, ht⟩ := hrel
    have hhad : wr.cell? ⟨g, 1, none⟩ = some (.int .i64 h) := by rw [cell_of_row wr g 1 _ _ (0, 0) hr.out]; rfl
    have hfr : wr.frozen? ⟨g, 1, none⟩ = false := blk_free hr.out 1
    by_cases hlt : k < ls.length
    · obtain ⟨b1, o1, A', c', rfl, hc, _, _⟩ := (HA.out wr ht.out).look hlt
      have hd : tot (ls.drop k) = (ls.getD k []).length + tot (ls.drop (k + 1)) := by rw [drop_get [] ls hlt, tot_cons]
      have hs2 := hs.out
      rw [hd] at hs2
      generalize ls.getD k [] = x at hc hd hs2
      have hx : h + (x.length : Int) ≤ 4611686018427387904 := by omega
      have HD := Lib.hid hd
      have HS2 := Lib.hid hs2
      clear hd hs2
      go_wp2
      have hwr : wrap64 (h + (x.length : Int)) = h + x.length := by unfold wrap64; omega
      go_region
      go_wp2
      go_roundw
      case rel => exact ⟨k + 1, h + x.length, by omega, by omega, by go_num, Lib.hid (by have := HS2.out; omega), Lib.hid (blk_put (w := wr.drew) hr.out 1 _), Lib.hid ((ht.out.below (below_drewN (Below.refl _ _) 1)).set 1 _)⟩
      case measure => simp [intOf]; omega
    · obtain rfl : k = ls.length := by omega
      have hH1 : h = H := by have := hs.out; rw [List.drop_eq_nil_of_le (Nat.le_refl _)] at this; simpa [tot] using this
      subst hH1
      have hc0 : wr.cell? ⟨g, 2, none⟩ = some (.int .i64 most) := by rw [cell_of_row wr g 2 _ _ (0, 0) hr.out]; rfl
      have hc3 : wr.cell? ⟨g, 3, none⟩ = some (.bool over) := by rw [cell_of_row wr g 3 _ _ (0, 0) hr.out]; rfl
      have hc2 : wr.cell? ⟨g, 0, none⟩ = some v := by rw [cell_of_row wr g 0 _ _ (0, 0) hr.out]; rfl
      have hf2 : wr.frozen? ⟨g, 0, none⟩ = false := blk_free hr.out 0
      have hf3 : wr.frozen? ⟨g, 3, none⟩ = false := blk_free hr.out 3
      rcases over with _ | _
      · have hm : most < h := by simpa using HO.out
        go_wp2
        go_quiet (fail)
        go_wp2
        go_ret2
        exact ⟨((ht.out.below (below_drewN (Below.refl _ _) nq)).set 3 _).set 0 _, rfl, blk_put (blk_put (w := wr.drewN nq) hr.out 3 (.bool true)) 0 (.slice none 0 0)⟩
      · go_wp2
        go_quiet (fail)
        go_wp2
        go_ret2
        exact ⟨((ht.out.below (below_drewN (Below.refl _ _) nq)).set 3 _).set 0 _, rfl, blk_put (blk_put (w := wr.drewN nq) hr.out 3 (.bool true)) 0 (.slice none 0 0)⟩

end Go.Proofs.Ytkcffggjggedjaa
