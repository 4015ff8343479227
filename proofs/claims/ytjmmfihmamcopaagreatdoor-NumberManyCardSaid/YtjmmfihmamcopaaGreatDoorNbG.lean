/- What number.Number's answer holds, row by row; the answer that the document fixes. -/
import Derived.Test.YtjmmfihmamcopaaGreatDoorNbB
namespace Go.Proofs.YtjmmfihmamcopaaGreatDoor
open Go.RowKit Tx Nb

/-- An Out, as it reads. -/
structure OutIs (w : World) (v : Nat → Value) (s : St) : Prop where
  bl : BlRow w (v 0) s.blocks
  lb : RowC 3 labF w w.heap.size (v 1) s.labels
  hd : RowC 4 hdF w w.heap.size (v 2) s.heads
  ci : RowC 1 txF w w.heap.size (v 3) s.cites
  bb : RowC 1 txF w w.heap.size (v 4) s.bibs
  la : RowC 1 inF w w.heap.size (v 5) s.la
  ha : RowC 1 inF w w.heap.size (v 6) s.ha
  ia : RowC 1 inF w w.heap.size (v 7) s.ia
  ix : RowC 1 txF w w.heap.size (v 8) s.index
  nt : RowC 2 ntF w w.heap.size (v 9) s.notes
theorem OutIs.step {w w' : World} {v : Nat → Value} {s : St} (h : OutIs w v s) (hb : Below w.heap.size w w') : OutIs w' v s :=
  ⟨h.bl.step hb, h.lb.step hb, h.hd.step hb, h.ci.step hb, h.bb.step hb, h.la.step hb, h.ha.step hb, h.ia.step hb, h.ix.step hb, h.nt.step hb⟩
theorem bl_cells (v : Nat → Value) : ∀ (l : List (Int × List Bs)) (k : Nat), blF v k l = ((List.range l.length).map fun j => ((l[j]?.getD (0, [])).1, v (k + j))).flatMap bkF
  | [], _ => rfl
  | b :: l, k => by
    rw [List.length_cons, List.range_succ_eq_map]
    simp only [blF, List.map_cons, List.flatMap_cons, List.map_map]
    rw [bl_cells v l (k + 1)]
    simp only [bkF, List.getElem?_cons_zero, Option.getD_some, Nat.add_zero, List.cons_append, List.nil_append]
    congr 3
    refine List.map_congr_left fun j _ => ?_
    simp only [Function.comp, List.getElem?_cons_succ]
    rw [show k + 1 + j = k + (j + 1) by omega]
theorem ow_out {B : Nat} {w : World} {v : Nat → Value} {s : St} (h : Ow B w [] v (10 + s.blocks.length) (desc s v)) : OutIs w v s := by
  refine ⟨?_, (show OwnC 63 3 labF B w (v 1) s.labels from h.own 1 (by omega)).rowC labF_len, (show OwnC 65 4 hdF B w (v 2) s.heads from h.own 2 (by omega)).rowC hdF_len,
    (show OwnC 9 1 txF B w (v 3) s.cites from h.own 3 (by omega)).rowC txF_len, (show OwnC 9 1 txF B w (v 4) s.bibs from h.own 4 (by omega)).rowC txF_len,
    (show OwnC 3 1 inF B w (v 5) s.la from h.own 5 (by omega)).rowC (fun _ => rfl), (show OwnC 3 1 inF B w (v 6) s.ha from h.own 6 (by omega)).rowC (fun _ => rfl), (show OwnC 3 1 inF B w (v 7) s.ia from h.own 7 (by omega)).rowC (fun _ => rfl),
    (show OwnC 9 1 txF B w (v 8) s.index from h.own 8 (by omega)).rowC txF_len, (show OwnC 92 2 ntF B w (v 9) s.notes from h.own 9 (by omega)).rowC (fun _ => rfl)⟩
  have h0 : w.ownsRow B 93 2 (v 0) s.blocks.length (blF v 10 s.blocks) := h.own 0 (by omega)
  rw [bl_cells] at h0
  refine ⟨(List.range s.blocks.length).map fun j => ((s.blocks[j]?.getD (0, [])).1, v (10 + j)), ?_, by simp, fun j h1 h2 => ?_⟩
  · have h1 : OwnC 93 2 bkF B w (v 0) ((List.range s.blocks.length).map fun j => ((s.blocks[j]?.getD (0, [])).1, v (10 + j))) := by
      unfold OwnC
      rw [List.length_map, List.length_range]
      exact h0
    exact h1.rowC bkF_len
  · have h3 : w.ownsRow B 9 1 (v (10 + j)) ((s.blocks[j]?.getD (0, [])).2).length (((s.blocks[j]?.getD (0, [])).2).flatMap txF) := by
      have := h.own (10 + j) (by omega)
      rw [show 10 + j = j + 10 by omega] at this ⊢
      exact this
    rw [List.getElem?_eq_getElem h2, Option.getD_some] at h3
    simp only [List.getElem_map, List.getElem_range, List.getElem?_eq_getElem h2, Option.getD_some]
    exact ⟨trivial, (show OwnC 9 1 txF B w (v (10 + j)) s.blocks[j].2 from h3).rowC txF_len⟩
namespace Nb
theorem dig_one (n : Nat) (h : n < 10) : dig (n : Int) = [(48 + n).toUInt8] := by
  unfold dig
  rw [show (min (max (n : Int) 0) 999999).toNat = n by omega, Lib.decDigits, dif_pos h]
def E0 : Env := ⟨[⟨[107], [49], 2⟩], [⟨2, [49, 46, 49], [67], 3⟩], [⟨[120], [88, 57, 57], [116]⟩], []⟩
def L0 : List It := [⟨4, [65, 32, 98]⟩, ⟨6, [107]⟩, ⟨7, [107]⟩, ⟨1, [46]⟩, ⟨2, []⟩, ⟨9, [120]⟩, ⟨7, [122]⟩, ⟨5, [67]⟩, ⟨14, []⟩]
theorem E0_ok : E0.Ok := ⟨by decide, by decide, by decide, by decide, by decide, by decide, by decide, by decide⟩
theorem spl_ab : spl [65, 32, 98] = [[65], [98]] := by decide
theorem spl_c : spl [67] = [[67]] := by decide
/-- What the document fixes. -/
theorem run0 : (run E0 L0).blocks = [(1, [[49], [65], [98]]), (0, [[49, 46], [91, 88, 57, 57, 93, 63, 63]]), (1, [[49, 46, 49], [67]]), (2, [[32, 32, 49, 46, 49, 32, 67, 32, 51]])] ∧ (run E0 L0).labels = [⟨[107], [49], 0⟩] ∧
    (run E0 L0).heads = [⟨1, [49], [65, 32, 98], 0⟩, ⟨2, [49, 46, 49], [67], 0⟩] ∧ (run E0 L0).cites = [[120]] ∧ (run E0 L0).bibs = [] ∧ (run E0 L0).la = [3] ∧ (run E0 L0).ha = [0, 5] ∧ (run E0 L0).notes = [(13, [122])] := by
  have d1 : dig 1 = [49] := dig_one 1 (by decide)
  have d3 : dig 3 = [51] := dig_one 3 (by decide)
  simp [run, E0, L0, Nb.one, Nb.head, Nb.headNum, Nb.close, Nb.block, Nb.init, Nb.label, Nb.find, Nb.here, Nb.refer, Nb.say, Nb.flow, Nb.note, Nb.cite, Nb.ciAt, Nb.once, Nb.noteIf, Nb.rows, Nb.lines, Nb.hdLine, onLast, spl_ab, spl_c, d1, d3]
end Nb
end Go.Proofs.YtjmmfihmamcopaaGreatDoor
