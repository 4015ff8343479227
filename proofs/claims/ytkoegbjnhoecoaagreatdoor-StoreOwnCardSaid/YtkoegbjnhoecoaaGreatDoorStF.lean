/- StoreOwn. -/
import Derived.Test.YtkoegbjnhoecoaaGreatDoorH9
namespace Go.Proofs.YtkoegbjnhoecoaaGreatDoor
open Go.RowKit Tx

/-- The files of a store do not lie in a block. -/
def Free (w : World) (sb g : Nat) : Prop := ∀ bd h0 h1 fv, w.heap[sb]? = some (SBlk bd h0 h1 fv) → fv.ownBlock ≠ some g
/-- A store, by what of the world it needs. -/
theorem Calm.set {B : Nat} {w0 w : World} {bd n sb G C : Nat} {L : List Wr.F} {R : List Nat} (h : Calm B w0 w bd n sb G C L R) (g j : Nat) (v : Value) (hg : g ∈ R) (hs : g ≠ sb) (hf : Free w sb g) : Calm B w0 (w.setCell ⟨g, j, none⟩ v) bd n sb G C L R ∧ Free (w.setCell ⟨g, j, none⟩ v) sb g := by
  obtain ⟨d, h0, h1, a, b⟩ := h
  obtain ⟨fv, k1, k2, k3, k4⟩ := a.files
  have hoth : ∀ k, k ≠ g → (w.setCell ⟨g, j, none⟩ v).heap[k]? = w.heap[k]? := fun k hk => Below.heap_setCell _ _ _ _ (fun e => hk (by simpa using e))
  have hsz := World.size_setCell w ⟨g, j, none⟩ v
  refine ⟨⟨d, h0, h1, ⟨a.disk.turn ((Moved.refl _ _).setCell g j v (.inl hg)) (fun k hk => ⟨.inl hk, by rw [hsz]; exact (a.disk.2.2.1 k hk).1⟩), a.mem, fv, (hoth sb hs.symm).trans k1, rowC_blk k2 (by rw [hsz]; exact Nat.le_refl _) (fun k hk _ => hoth k (fun e => hf bd h0 h1 fv k1 (by rw [hk, e]))), k3, k4⟩, b⟩, fun bd' a' b' fv' e => ?_⟩
  rw [hoth sb hs.symm] at e
  exact hf bd' a' b' fv' e
def turned : Bs := [116, 117, 114, 110, 101, 100]
/-- A row's block, its cells not frozen. -/
def Block (w : World) (g len : Nat) : Prop := ∃ cur : Array Value, w.heap[g]? = some (.cells cur 29 (0, 0)) ∧ len * 2 ≤ cur.size
theorem Block.cell {w : World} {g len k : Nat} (h : Block w g len) (hk : k < len) : (∃ u, w.cell? ⟨g, k * 2 + 1, none⟩ = some u) ∧ w.frozen? ⟨g, k * 2 + 1, none⟩ = false := by
  obtain ⟨cur, h1, h2⟩ := h
  refine ⟨⟨cur[k * 2 + 1]'(by omega), ?_⟩, Lib.frozen_of_heap h1 _⟩
  rw [Lib.cell_of_heap h1, Array.getElem?_eq_getElem]
theorem Block.set {w : World} {g len : Nat} (h : Block w g len) (j : Nat) (v : Value) : Block (w.setCell ⟨g, j, none⟩ v) g len := by
  obtain ⟨cur, h1, h2⟩ := h
  exact ⟨_, wr_cells_set (j := j) h1 v, by simpa using h2⟩
theorem OwnC.blockF {base : Nat} {w : World} {v : Value} {l : List Wr.F} (h : OwnC 29 2 ff base w v l) : ∀ g, v.ownBlock = some g → Block w g l.length := by
  intro g hg
  rcases h.2 with ⟨rfl, _⟩ | ⟨b, cap, cur, rfl, hb, hgc, hnc, hcm, hcs, htake⟩
  · cases hg
  · have e : b = g := by simpa [Value.ownBlock] using hg
    subst e
    refine ⟨_, hgc, ?_⟩
    have := Nat.mul_le_mul_right 2 hnc
    omega
theorem OwnC.slice0 {base : Nat} {w : World} {v : Value} {l : List Wr.F} (h : OwnC 29 2 ff base w v l) : (v = .slice none 0 0 ∧ l.length = 0) ∨ ∃ g c, v = .slice (some ⟨g, 0, none⟩) l.length c := by
  rcases h.2 with ⟨rfl, hn⟩ | ⟨b, cap, cur, rfl, _⟩
  · exact .inl ⟨rfl, hn⟩
  · exact .inr ⟨_, _, rfl⟩
end Go.Proofs.YtkoegbjnhoecoaaGreatDoor
