/- The call of number.Number over nothing but items; its blocks, with their words apart. -/
import Derived.Test.YtjmmfihmamcopaaDoorNbR1
import Derived.Test.YtjmmfihmamcopaaDoorNbCa
import Derived.Test.YtjmmfihmamcopaaDoorAppRow
namespace Go.Proofs.YtjmmfihmamcopaaDoor
open Go.RowKit Tx Nb

def E1 : Env := ⟨[], [], [], []⟩
theorem E1_ok : E1.Ok := ⟨by decide, by decide, by decide, by decide, by decide, by decide, by decide, by decide⟩
theorem rowC_none {α : Type} (n : Nat) (f : α → List Value) (w : World) (B : Nat) : RowC n f w B (.slice none 0 0) ([] : List α) := ⟨0, by simp, by decide, .inl ⟨rfl, none, rfl⟩⟩
theorem num1_any {w : World} (vl : Value) (l : List It) (hr : RowC 2 itF w w.heap.size vl l) (hl : l.length ≤ 700) (hx : ∀ x ∈ l, x.s.length ≤ 100) (hg : Gl w) :
    Calls Tryd.prog 8 #[vl, .agg #[.slice none 0 0, .slice none 0 0, .slice none 0 0, .slice none 0 0], .slice none 0 0, .slice none 0 0] w (NumPost w (run E1 l)) :=
  number_any _ _ _ _ _ _ _ l hr hl hx ⟨rowC_none _ _ _ _, rowC_none _ _ _ _, rowC_none _ _ _ _, rowC_none _ _ _ _, E1_ok, fun _wx hb => hg.below hb⟩ ⟨_, _, _, rfl⟩ ⟨_, _, _, rfl⟩
/-- Blocks whose words lie apart. -/
def BlOwn (w : World) (v : Value) (l : List (Int × List Bs)) : Prop :=
  ∃ u : List (Int × Value), RowC 2 bkF w w.heap.size v u ∧ u.length = l.length ∧ ∀ j (h : j < u.length) (h' : j < l.length), u[j].1 = l[j].1 ∧ ∃ B, OwnC 9 1 txF B w u[j].2 l[j].2
theorem BlOwn.step {w w' : World} {v : Value} {l : List (Int × List Bs)} (h : BlOwn w v l) (hb : Below w.heap.size w w') : BlOwn w' v l := by
  obtain ⟨u, h1, h2, h3⟩ := h
  exact ⟨u, h1.step hb, h2, fun j a b => ⟨(h3 j a b).1, by obtain ⟨B, hB⟩ := (h3 j a b).2; exact ⟨B, hB.below hb⟩⟩⟩
theorem ow_bl {B : Nat} {w : World} {v : Nat → Value} {s : St} (h : Ow B w [] v (10 + s.blocks.length) (desc s v)) : BlOwn w (v 0) s.blocks := by
  have h0 : w.ownsRow B 51 2 (v 0) s.blocks.length (blF v 10 s.blocks) := h.own 0 (by omega)
  rw [bl_cells] at h0
  refine ⟨(List.range s.blocks.length).map fun j => ((s.blocks[j]?.getD (0, [])).1, v (10 + j)), ?_, by simp, fun j h1 h2 => ?_⟩
  · have h1 : OwnC 51 2 bkF B w (v 0) ((List.range s.blocks.length).map fun j => ((s.blocks[j]?.getD (0, [])).1, v (10 + j))) := by
      unfold OwnC
      rw [List.length_map, List.length_range]
      exact h0
    exact h1.rowC bkF_len
  · have h3 : w.ownsRow B 9 1 (v (10 + j)) ((s.blocks[j]?.getD (0, [])).2).length (((s.blocks[j]?.getD (0, [])).2).flatMap txF) := by
      have := h.own (10 + j) (by omega)
      rw [show 10 + j = j + 10 by omega] at this ⊢
      exact this
    rw [List.getElem?_eq_getElem h2, Option.getD_some] at h3
    simp only [List.getElem_map, List.getElem_range, List.getElem?_eq_getElem h2, Option.getD_some]
    exact ⟨trivial, B, h3⟩
/-- An answer, as it reads. -/
structure OutV (w : World) (v : Nat → Value) (s : St) : Prop where
  is : OutIs w v s
  bo : BlOwn w (v 0) s.blocks
theorem OutV.step {w w' : World} {v : Nat → Value} {s : St} (h : OutV w v s) (hb : Below w.heap.size w w') : OutV w' v s := ⟨h.is.step hb, h.bo.step hb⟩
/-- The slices of an answer. -/
theorem OutIs.shapes {w : World} {v : Nat → Value} {s : St} (h : OutIs w v s) : (∃ A c, v 0 = .slice A s.blocks.length c) ∧ (∃ A c, v 1 = .slice A s.labels.length c) ∧ (∃ A c, v 2 = .slice A s.heads.length c) ∧ (∃ A c, v 3 = .slice A s.cites.length c) ∧ (∃ A c, v 4 = .slice A s.bibs.length c) ∧
    (∃ A c, v 5 = .slice A s.la.length c) ∧ (∃ A c, v 6 = .slice A s.ha.length c) ∧ (∃ A c, v 7 = .slice A s.ia.length c) ∧ (∃ A c, v 8 = .slice A s.index.length c) ∧ (∃ A c, v 9 = .slice A s.notes.length c) := by
  have key : ∀ {α : Type} {n : Nat} {f : α → List Value} {B : Nat} {x : Value} {l : List α}, RowC n f w B x l → ∃ A c, x = .slice A l.length c := fun h => by obtain ⟨A, c, e, _⟩ := h.shape; exact ⟨A, c, e⟩
  refine ⟨?_, key h.lb, key h.hd, key h.ci, key h.bb, key h.la, key h.ha, key h.ia, key h.ix, key h.nt⟩
  obtain ⟨u, h1, h2, _⟩ := h.bl
  rw [← h2]
  exact key h1
end Go.Proofs.YtjmmfihmamcopaaDoor
