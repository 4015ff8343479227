/- Commit's deferred closure. -/
import Derived.Test.YtkoegbjnhoecoaaGreatDoorStW6
import Derived.Defers
import Derived.Recover
namespace Go.Proofs.YtkoegbjnhoecoaaGreatDoor
open Go.RowKit Tx

set_option maxRecDepth 100000 in
set_option maxHeartbeats 2000000 in
theorem catch_panicking (p : Addr) (x : Int) (w : World) (hc : w.cell? p = some (.int .i64 x)) (hz : w.frozen? p = false) :
    CallsD Tryz.prog 26 #[.pointer (some p)] (.panicking deadV) w fun e u' w' =>
      e = .returned (.tuple #[]) ∧ u' = .panicking [{ v := .iface 63 (.agg #[.int .i64 8]), recovered := true }] ∧ w' = (w.alloc (.cells #[.int .i64 8] 63)).setCell p (.int .i64 8) := by
  have hta : ∀ (ti : TypeId) (w : World), (Instr.typeAssert (.iface 63 (.agg #[.int .i64 8])) ti 63 true).run Tryz.prog w = .ok (.tuple #[.agg #[.int .i64 8], .bool true]) w := fun _ _ => by kernel_rfl
  have htn : ∀ (ti : TypeId) (w : World), (Instr.typeAssert .nilIface ti 63 true).run Tryz.prog w = .ok (.tuple #[.agg #[.int .i64 0], .bool false]) w := fun _ _ => by kernel_rfl
  refine callsD_of_wpS Tryz.func26 rfl fun c₀ cs hu => ?_
  apply wpS_seq
  apply wpS_region
  unfold deadV at hu
  simp [wpOpsS, go_sem, recoverD, hu, hta, htn, List.replicate, Array.replicate, Tryz.ntmps26, Exit.thenS]
  apply wpS_seq
  apply wpS_region
  simp [wpOpsS, go_sem, Exit.thenS]
  refine wpS_cond (t := true) (by simp [Act.eval]) ?_
  simp only [if_true]
  have hlt : p.block < w.heap.size := World.block_lt_of_cell? w p (by rw [hc])
  have e1 : (w.alloc (.cells #[.int .i64 8] 63)).cell? ⟨w.heap.size, 0, none⟩ = some (.int .i64 8) := by rw [Lib.cell_of_heap (heap_alloc_new w _)]; rfl
  have e2 : (w.alloc (.cells #[.int .i64 8] 63)).cell? p = some (.int .i64 x) := by rw [World.cell?_alloc_lt _ _ _ hlt]; exact hc
  have e3 : (w.alloc (.cells #[.int .i64 8] 63)).frozen? p = false := by rw [frozen?_alloc_cells]; exact hz
  apply wpS_region
  simp [wpOpsS, go_sem, e1, e2, e3, bodyPostS, results, Tryz.f26]
set_option maxRecDepth 100000 in
set_option maxHeartbeats 2000000 in
theorem catch_idle (p : Addr) (w : World) :
    CallsD Tryz.prog 26 #[.pointer (some p)] .returning w fun e u' w' => e = .returned (.tuple #[]) ∧ u' = .returning ∧ w' = w.alloc (.cells #[.int .i64 0] 63) := by
  have hta : ∀ (ti : TypeId) (w : World), (Instr.typeAssert (.iface 63 (.agg #[.int .i64 8])) ti 63 true).run Tryz.prog w = .ok (.tuple #[.agg #[.int .i64 8], .bool true]) w := fun _ _ => by kernel_rfl
  have htn : ∀ (ti : TypeId) (w : World), (Instr.typeAssert .nilIface ti 63 true).run Tryz.prog w = .ok (.tuple #[.agg #[.int .i64 0], .bool false]) w := fun _ _ => by kernel_rfl
  refine callsD_of_wpS Tryz.func26 rfl fun c₀ cs hu => ?_
  apply wpS_seq
  apply wpS_region
  simp [wpOpsS, go_sem, recoverD, hu, hta, htn, List.replicate, Array.replicate, Tryz.ntmps26, Exit.thenS]
  apply wpS_seq
  apply wpS_region
  simp [wpOpsS, go_sem, Exit.thenS]
  refine wpS_cond (t := false) (by simp [Act.eval]) ?_
  simp only [Bool.false_eq_true, if_false]
  refine wpS_of_wp (wp_skip ?_)
  cases c₀
  simp_all [bodyPostS, results, Tryz.f26]
end Go.Proofs.YtkoegbjnhoecoaaGreatDoor
