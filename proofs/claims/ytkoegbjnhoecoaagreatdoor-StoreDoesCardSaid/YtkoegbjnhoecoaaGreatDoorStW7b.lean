/- How Commit is left: behind a panic, and without one. -/
import Derived.Test.YtkoegbjnhoecoaaGreatDoorStW7
namespace Go.Proofs.YtkoegbjnhoecoaaGreatDoor
open Go.RowKit Tx

def catchD (rc : Nat) : List Deferred := [{ target := Target.fn (Fn.func 26) #[.pointer (some ⟨rc, 0, none⟩)], args := #[] }]
theorem set_other0 {w : World} {k rc : Nat} (o : Obj) (v : Value) (hk : k < w.heap.size) (h : k ≠ rc) : ((w.alloc o).setCell ⟨rc, 0, none⟩ v).heap[k]? = w.heap[k]? := by
  rw [Below.heap_setCell _ _ _ _ (fun e => h (by simpa using e)), Below.heap_alloc _ _ _ hk]
theorem door_panic {Rr : Ending → World → Prop} {a : Act} {w' : World} {rc : Nat} (hd : a.defers = catchD rc) (h4 : a.tmps[4]? = some (.pointer (some ⟨rc, 0, none⟩))) (hc : w'.heap[rc]? = some (.cells #[.int .i64 0] 31 (0, 0)))
    (h : Rr (.returned (.int .i64 8)) ((w'.alloc (.cells #[.int .i64 8] 63)).setCell ⟨rc, 0, none⟩ (.int .i64 8))) : bodyPostD Tryz.prog Tryz.f12 Rr (Exit.panic deadV) a w' := by
  obtain ⟨tmps, defers⟩ := a
  simp only at hd h4
  subst hd
  unfold catchD
  have hlt := lt_of_block hc
  have c0 : w'.cell? ⟨rc, 0, none⟩ = some (.int .i64 0) := by rw [Lib.cell_of_heap hc]; rfl
  have f0 : w'.frozen? ⟨rc, 0, none⟩ = false := Lib.frozen_of_heap hc 0
  have hc1 : (w'.alloc (.cells #[.int .i64 8] 63)).heap[rc]? = some (.cells #[.int .i64 0] 31 (0, 0)) := (Below.heap_alloc _ _ _ hlt).trans hc
  have hc2 := wr_cells_set (j := 0) hc1 (.int .i64 8)
  have e0 : ((w'.alloc (.cells #[.int .i64 8] 63)).setCell ⟨rc, 0, none⟩ (.int .i64 8)).cell? ⟨rc, 0, none⟩ = some (.int .i64 8) := by rw [Lib.cell_of_heap hc2]; rfl
  refine leaves_cons (f := 26) (args := #[.pointer (some ⟨rc, 0, none⟩)]) (by simp) (by simp [go_sem]) ?_
  refine (catch_panicking ⟨rc, 0, none⟩ 0 w' c0 f0).mono ?_
  rintro e u' w'' ⟨rfl, rfl, rfl⟩
  simp [Leaves, settle, results, Tryz.f12, go_sem, h4, e0]
  exact h
theorem door_ret {Rr : Ending → World → Prop} {a : Act} {w' : World} {rc : Nat} {x : Int} (hd : a.defers = catchD rc) (h4 : a.tmps[4]? = some (.pointer (some ⟨rc, 0, none⟩))) (hc : w'.heap[rc]? = some (.cells #[.int .i64 x] 31 (0, 0)))
    (h : Rr (.returned (.int .i64 x)) (w'.alloc (.cells #[.int .i64 0] 63))) : bodyPostD Tryz.prog Tryz.f12 Rr Exit.ret a w' := by
  obtain ⟨tmps, defers⟩ := a
  simp only at hd h4
  subst hd
  unfold catchD
  have hlt := lt_of_block hc
  have hc2 : (w'.alloc (.cells #[.int .i64 0] 63)).heap[rc]? = some (.cells #[.int .i64 x] 31 (0, 0)) := (Below.heap_alloc _ _ _ hlt).trans hc
  have e0 : (w'.alloc (.cells #[.int .i64 0] 63)).cell? ⟨rc, 0, none⟩ = some (.int .i64 x) := by rw [Lib.cell_of_heap hc2]; rfl
  refine leaves_cons (f := 26) (args := #[.pointer (some ⟨rc, 0, none⟩)]) (by simp) (by simp [go_sem]) ?_
  refine (catch_idle ⟨rc, 0, none⟩ w').mono ?_
  rintro e u' w'' ⟨rfl, rfl, rfl⟩
  simp [Leaves, settle, results, Tryz.f12, go_sem, h4, e0]
  exact h
end Go.Proofs.YtkoegbjnhoecoaaGreatDoor
