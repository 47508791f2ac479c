/- append(m, make([]byte, K)...) onto a row of the call's own. -/
import Derived.Test.YtkodmicocjklcaaShBlock
import Derived.Test.YtkodmicocjklcaaShConst
namespace Go.Proofs.Ytkodmicocjklcaa
open Go.RowKit

theorem run_append_own_zeros (w : World) (base : Nat) (ty : TypeId) {v : Value} {n : Nat} {xs : List Int} (hown : w.ownsRow base 5 1 v n (ints .u8 xs)) (hn : 0 < n) (K : Nat) (hK : 0 < K) (hb : n + K ≤ 100000000) (hbase : base ≤ w.heap.size) :
    ∃ v' w', (Builtin.append_ #[25, 3] ty #[v, .int .i64 (K : Nat)]).run Try.prog w = .ok v' w' ∧ w'.ownsRow base 5 1 v' (n + K) (ints .u8 (xs ++ List.replicate K 0)) ∧ w.grownBy w' v.ownBlock := by
  obtain ⟨i0, hi, hz0, hz1, hz2⟩ := info_parts (show (Try.prog.info? 5).map (fun i => (i.zero, i.size, i.bytes)) = some (some (.int .u8 0), 1, 1) by kernel_rfl)
  have hl : xs.length = n := by have := hown.1; simpa [ints] using this
  rcases hown.2 with ⟨rfl, h0⟩ | ⟨g, cap, cur, rfl, hbg, hg, hnc, hcm, hcs, htake⟩
  · omega
  · by_cases hroom : n + K ≤ cap
    · have hzl : (Builtin.zeroCells (Value.int .u8 0).cells K).toList = ints .u8 (List.replicate K 0) := by rw [zeros_u8]
      have hst := run_storeCells_cells (P := Try.prog) g n (ints .u8 (List.replicate K 0)) 0 w
        (fun j hj => by
          have hj' : j < K := by simpa [ints] using hj
          rw [Nat.add_zero, cell_of_row w g _ cur _ (0, 0) hg, Array.getElem?_eq_getElem (by omega)]; rfl)
        (fun j hj => by rw [Nat.add_zero]; exact frozen_of_row w g _ cur _ hg)
        (fun u hu => by simp only [ints, List.mem_map] at hu; obtain ⟨x, _, rfl⟩ := hu; rfl)
      simp only [Nat.add_zero] at hst
      have hw : IntKind.i64.wrap (K : Int) = K := by rw [IntKind.wrap_i64]; omega
      have hneg : ¬ ((K : Int) < 0) := by omega
      have hns : ¬ (K = 0) := by omega
      have h48i : ¬ (281474976710656 < (K : Int)) := by omega
      have hst0 : (storeCells ⟨g, n, none⟩ (ints .u8 (List.replicate K 0)) 0).run Try.prog w = .ok () (w.setCells g n (ints .u8 (List.replicate K 0))) := hst
      have hrun : (Builtin.append_ #[25, 3] ty #[.slice (some ⟨g, 0, none⟩) n cap, .int .i64 (K : Nat)]).run Try.prog w = .ok (.slice (some ⟨g, 0, none⟩) (n + K) cap) (w.setCells g n (ints .u8 (List.replicate K 0))) := by
        simp [Builtin.append_, run_underlying Try.underlying25, run_underlying Try.underlying3, sizeOf, typeInfo, zeroValue, hi, hz0, hz1, hz2, asInt, asIntOf, hw, hroom, hneg, hns, h48i, Addr.add_lit, hzl, hst0]
      refine ⟨_, _, hrun, ⟨by simp [ints]; omega, .inr ⟨g, cap, _, rfl, hbg, setCells_heap _ n w cur hg, hroom, hcm, by rw [putAll_size]; exact hcs, ?_⟩⟩, setCells_grown _ n w⟩
      have h1 := putAll_take (ints .u8 (List.replicate K 0)) n cur (by simp [ints]; omega)
      have hlz : (ints .u8 (List.replicate K 0)).length = K := by simp [ints]
      rw [hlz] at h1
      rw [Nat.mul_one] at htake
      rw [Nat.mul_one, h1, htake, ints_append]
    · have hold : (Builtin.firstCells i0.size n (.slice (some ⟨g, 0, none⟩) n cap)).run Try.prog w.drew = .ok (ints .u8 xs).toArray w.drew :=
        run_firstCells_some w.drew i0.size n ⟨g, 0, none⟩ n cap (ints .u8 xs) (by rw [hz1]; simp [ints]; omega) (fun j u hu => by simpa using hown.cells rfl j u hu)
      have hr := Lib.run_append_grow_zeros (P := Try.prog) w 25 3 ty 5 i0 (.int .u8 0) .i64 .i64 Try.underlying25 Try.underlying3 hi hz0 (some ⟨g, 0, none⟩) n cap (ints .u8 xs) hold K hK (by omega) (by omega) (by omega) (by rw [hz2]; omega)
        (by rw [hz2]; exact growslice_fits (by omega) (by omega))
      have hge := grownCap_ge w (n + K) cap 5
      have hcm2 : grownCap w (n + K) cap 5 ≤ maxLen := grownCap_le_maxLen w (n + K) cap 5 (by unfold maxLen; omega)
      refine ⟨_, _, hr, ⟨by simp [ints]; omega, .inr ⟨w.heap.size, _, _, rfl, hbase, heap_alloc_new w.drew _, hge, hcm2, ?_, ?_⟩⟩, ⟨rfl, rfl, rfl, by simp, fun k hk _ => (Below.heap_alloc w.drew _ k hk).trans rfl⟩⟩
      · rw [zeros_u8, zeros_u8]
        simp [ints, hl]; omega
      · rw [zeros_u8, zeros_u8]
        simp only [Array.toList_append]
        rw [ints_append, Nat.mul_one]
        have hl2 : (ints .u8 (xs ++ List.replicate K 0)).length = n + K := by simp [ints, hl]
        rw [← hl2, List.take_left]
end Go.Proofs.Ytkodmicocjklcaa
