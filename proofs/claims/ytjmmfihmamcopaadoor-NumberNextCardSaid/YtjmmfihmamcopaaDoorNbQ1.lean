/- number: what the next run is told hangs on the items alone. Plain Lean. -/
import Derived.Test.YtjmmfihmamcopaaDoorNbG
namespace Go.Proofs.YtjmmfihmamcopaaDoor
open Tx
namespace Nb
/-- Alike in what the next run is told. -/
structure Alike (s t : St) : Prop where
  lb : s.labels = t.labels
  hd : s.heads = t.heads
  ci : s.cites = t.cites
  bb : s.bibs = t.bibs
  ix : s.index = t.index
  la : s.la.length = t.la.length
  ha : s.ha.length = t.ha.length
  ow : s.own = t.own
  sc : s.c.sec = t.c.sec
  su : s.c.sub = t.c.sub
  lt : s.c.last = t.c.last
theorem Alike.refl (s : St) : Alike s s := ⟨rfl, rfl, rfl, rfl, rfl, rfl, rfl, rfl, rfl, rfl, rfl⟩
theorem Alike.symm {s t : St} (h : Alike s t) : Alike t s := ⟨h.lb.symm, h.hd.symm, h.ci.symm, h.bb.symm, h.ix.symm, h.la.symm, h.ha.symm, h.ow.symm, h.sc.symm, h.su.symm, h.lt.symm⟩
theorem Alike.trans {s t u : St} (h : Alike s t) (k : Alike t u) : Alike s u := ⟨h.lb.trans k.lb, h.hd.trans k.hd, h.ci.trans k.ci, h.bb.trans k.bb, h.ix.trans k.ix, h.la.trans k.la, h.ha.trans k.ha, h.ow.trans k.ow, h.sc.trans k.sc, h.su.trans k.su, h.lt.trans k.lt⟩
theorem note_al (s : St) (e : Int) (t : Bs) : Alike (Nb.note s e t) s := ⟨rfl, rfl, rfl, rfl, rfl, rfl, rfl, rfl, rfl, rfl, rfl⟩
theorem noteIf_al (s : St) (b : Bool) (t : Bs) : Alike (Nb.noteIf s b t) s := by
  cases b with
  | true => exact note_al s 3 t
  | false => exact Alike.refl s
theorem block_al (s : St) (k : Int) (ws : List Bs) : Alike (Nb.block s k ws) s := ⟨rfl, rfl, rfl, rfl, rfl, rfl, rfl, rfl, rfl, rfl, rfl⟩
theorem close_al (s : St) : Alike (Nb.close s) s := ⟨rfl, rfl, rfl, rfl, rfl, rfl, rfl, rfl, rfl, rfl, rfl⟩
theorem gap_al (s : St) : Alike { s with c := { s.c with op := false } } s := ⟨rfl, rfl, rfl, rfl, rfl, rfl, rfl, rfl, rfl, rfl, rfl⟩
theorem flow_al (s : St) : Alike (Nb.flow s) s := by
  unfold Nb.flow
  split
  · exact Alike.refl s
  · exact ⟨rfl, rfl, rfl, rfl, rfl, rfl, rfl, rfl, rfl, rfl, rfl⟩
theorem say_al (s : St) (t : Bs) : Alike (Nb.say s t) s := by
  unfold Nb.say
  split
  · exact Alike.refl s
  · have h := flow_al s
    simp only
    split
    · exact ⟨h.lb, h.hd, h.ci, h.bb, h.ix, h.la, h.ha, h.ow, h.sc, h.su, h.lt⟩
    · exact ⟨h.lb, h.hd, h.ci, h.bb, h.ix, h.la, h.ha, h.ow, h.sc, h.su, h.lt⟩
theorem lines_al : ∀ (l : List Bs) (s : St), Alike (Nb.lines s l) s
  | [], s => Alike.refl s
  | t :: l, s => (lines_al l (Nb.block s 2 [t])).trans (block_al s 2 [t])
theorem refer_al (E : Env) (s : St) (x : It) : Alike (Nb.refer E s x) s := by
  unfold Nb.refer
  cases find E.labels x.s with
  | none => exact (note_al _ _ _).trans (say_al _ _)
  | some l =>
    simp only
    split
    · exact say_al _ _
    · exact say_al _ _
theorem citeS_al (E : Env) (s : St) (t : Bs) : Alike (citeS E s t) s := by
  unfold citeS
  cases ciAt E.bbl t with
  | none => exact (note_al _ _ _).trans (say_al _ _)
  | some c => exact say_al _ _
theorem cites_al {s t : St} (h : Alike s t) (l : List Bs) : Alike { s with cites := l } { t with cites := l } := ⟨h.lb, h.hd, rfl, h.bb, h.ix, h.la, h.ha, h.ow, h.sc, h.su, h.lt⟩
theorem bibs_al {s t : St} (h : Alike s t) (l : List Bs) : Alike { s with bibs := l } { t with bibs := l } := ⟨h.lb, h.hd, h.ci, rfl, h.ix, h.la, h.ha, h.ow, h.sc, h.su, h.lt⟩
theorem cite_al {s t : St} (h : Alike s t) (E F : Env) (k : Bs) : Alike (Nb.cite E s k) (Nb.cite F t k) := by
  rw [cite_eq, cite_eq]
  have hs := ((citeS_al E s k).trans h).trans (citeS_al F t k).symm
  refine ((noteIf_al _ _ _).trans ?_).trans (noteIf_al _ _ _).symm
  rw [hs.ci]
  exact cites_al hs _
theorem rows_al {s t : St} (h : Alike s t) (E F : Env) (x : It) : Alike (Nb.rows E s x) (Nb.rows F t x) := by
  have hc := ((close_al s).trans h).trans (close_al t).symm
  unfold Nb.rows
  simp only
  split
  · refine ((lines_al _ _).trans ?_).trans (lines_al _ _).symm
    refine ((noteIf_al _ _ _).trans ?_).trans (noteIf_al _ _ _).symm
    rw [hc.bb]
    exact bibs_al hc _
  · split
    · exact ((lines_al _ _).trans hc).trans (lines_al _ _).symm
    · exact ((lines_al _ _).trans hc).trans (lines_al _ _).symm
theorem label_al {s t : St} (h : Alike s t) (k : Bs) : Alike (Nb.label s k) (Nb.label t k) := by
  unfold Nb.label
  rw [h.lb]
  split
  · exact ((note_al _ _ _).trans h).trans (note_al _ _ _).symm
  · split
    · exact ((note_al _ _ _).trans h).trans (note_al _ _ _).symm
    · refine ⟨by simp only [h.lt], h.hd, h.ci, h.bb, h.ix, ?_, h.ha, h.ow, h.sc, h.su, h.lt⟩
      simp only [List.length_append, List.length_singleton, h.la]
theorem index_al {s t : St} (h : Alike s t) (k : Bs) : Alike (Nb.indexT s k) (Nb.indexT t k) := by
  unfold Nb.indexT
  rw [h.ix]
  split
  · exact ((note_al _ _ _).trans h).trans (note_al _ _ _).symm
  · exact ⟨h.lb, h.hd, h.ci, h.bb, rfl, h.la, h.ha, h.ow, h.sc, h.su, h.lt⟩
theorem step_to {s t : St} (h : Alike s t) (L : Bs) (o : Cn) : Alike { s with own := o, c := { s.c with last := L } } { t with own := o, c := { t.c with last := L } } := ⟨h.lb, h.hd, h.ci, h.bb, h.ix, h.la, h.ha, rfl, h.sc, h.su, rfl⟩
theorem step_al {s t : St} (h : Alike s t) (k : Bs) : Alike (Nb.step s k) (Nb.step t k) := by
  rw [Nb.step, Nb.step, h.ow]
  split
  · exact ((note_al _ _ _).trans h).trans (note_al _ _ _).symm
  · exact step_to h _ _
theorem headNum_al {s t : St} (h : Alike s t) (x : It) : (headNum s x).sec = (headNum t x).sec ∧ (headNum s x).sub = (headNum t x).sub ∧ (headNum s x).last = (headNum t x).last := by
  rw [headNum, headNum, h.sc, h.su]
  generalize dig ((t.c.sec + 1 : Nat) : Int) = a
  generalize dig ((t.c.sub + 1 : Nat) : Int) = b
  split
  · exact ⟨rfl, rfl, rfl⟩
  · exact ⟨h.sc, rfl, rfl⟩
theorem head_al {s t : St} (h : Alike s t) (x : It) : Alike (Nb.head s x) (Nb.head t x) := by
  have hc := ((close_al s).trans h).trans (close_al t).symm
  obtain ⟨h1, h2, h3⟩ := headNum_al hc x
  unfold Nb.head
  rw [h.hd]
  split
  · exact ((note_al _ _ _).trans h).trans (note_al _ _ _).symm
  · simp only
    generalize headNum (Nb.close s) x = a at *
    generalize headNum (Nb.close t) x = b at *
    refine ((block_al _ _ _).trans ?_).trans (block_al _ _ _).symm
    refine ⟨h.lb, ?_, h.ci, h.bb, h.ix, h.la, ?_, h.ow, h1, h2, h3⟩
    · show (Nb.close s).heads ++ _ = (Nb.close t).heads ++ _
      rw [hc.hd, h3]
    · show ((Nb.close s).ha ++ _).length = ((Nb.close t).ha ++ _).length
      simp only [List.length_append, List.length_singleton, hc.ha]
theorem one_al {s t : St} (h : Alike s t) (E F : Env) (x : It) : Alike (Nb.one E s x) (Nb.one F t x) := by
  have key : ∀ p q p' q' : St, Alike p p' → Alike q q' → ∀ c : Prop, ∀ d : Decidable c, Alike (@ite _ c d p q) (@ite _ c d p' q') := fun p q p' q' h1 h2 c d => by
    split
    · exact h1
    · exact h2
  have hs : ∀ a b : Bs, Alike (Nb.say s a) (Nb.say t b) := fun a b => ((say_al s a).trans h).trans (say_al t b).symm
  unfold Nb.one
  refine key _ _ _ _ (hs _ _) ?_ _ _
  refine key _ _ _ _ (((gap_al s).trans h).trans (gap_al t).symm) ?_ _ _
  refine key _ _ _ _ (head_al h x) ?_ _ _
  refine key _ _ _ _ (label_al h _) ?_ _ _
  refine key _ _ _ _ (((refer_al E s x).trans h).trans (refer_al F t x).symm) ?_ _ _
  refine key _ _ _ _ (cite_al h E F _) ?_ _ _
  refine key _ _ _ _ (index_al h _) ?_ _ _
  refine key _ _ _ _ (step_al h _) ?_ _ _
  refine key _ _ _ _ (hs _ _) ?_ _ _
  refine key _ _ _ _ (rows_al h E F x) ?_ _ _
  refine key _ _ _ _ (((close_al _).trans (block_al s 3 [])).trans (h.trans ((close_al _).trans (block_al t 3 [])).symm)) ?_ _ _
  exact key _ _ _ _ (((close_al s).trans h).trans (close_al t).symm) h _ _
theorem run_al (E F : Env) (l : List It) : Alike (run E l) (run F l) := by
  have key : ∀ (l : List It) (s t : St), Alike s t → Alike (l.foldl (one E) s) (l.foldl (one F) t) := by
    intro l
    induction l with
    | nil => intro s t h; exact h
    | cons x l ih => intro s t h; exact ih _ _ (one_al h E F x)
  exact key l _ _ (Alike.refl _)
end Nb
end Go.Proofs.YtjmmfihmamcopaaDoor
