/- number: texts, gaps and paragraphs alone. Plain Lean. -/
import Derived.Test.YtjmmfihmamcopaaDoorNbQ1
namespace Go.Proofs.YtjmmfihmamcopaaDoor
open Tx
namespace Nb
/-- The words of texts, gaps and paragraphs, and whether the last one goes on. -/
def plS (p : List Bs × Bool) (x : It) : List Bs × Bool :=
  if x.kind = 1 then (if x.s = [] then p else if p.2 = true then (onLast (· ++ x.s) p.1, true) else (p.1 ++ [x.s], true)) else (p.1, false)
/-- A state of texts, gaps and paragraphs alone. -/
structure Pln (s : St) (p : List Bs × Bool) : Prop where
  op : s.c.op = p.2
  fl : s.blocks.flatMap (·.2) = p.1
  bl : ∀ b ∈ s.blocks, b.1 = 0 ∧ b.2 ≠ []
  nt : s.notes = []
  lb : s.labels = []
  hd : s.heads = []
  ci : s.cites = []
  bb : s.bibs = []
  ix : s.index = []
  inv : Inv s
theorem Pln.say {s : St} {p : List Bs × Bool} (h : Pln s p) (t : Bs) (ht : t ≠ []) : Pln (Nb.say s t) (if p.2 = true then (onLast (· ++ t) p.1, true) else (p.1 ++ [t], true)) := by
  have hi := h.inv.say t
  have hal := say_al s t
  have hnt : (Nb.say s t).notes = [] := by
    rw [← h.nt]
    unfold Nb.say Nb.flow
    rw [if_neg ht]
    simp only
    split <;> split <;> rfl
  cases ho : s.c.op with
  | true =>
    have hp : p.2 = true := h.op.symm.trans ho
    have hf := h.inv.op ho
    obtain ⟨bs, ws, hb, hw⟩ := h.inv.fl hf
    obtain ⟨ws0, x, rfl⟩ : ∃ a x, ws = a ++ [x] := ⟨ws.dropLast, ws.getLast (hw ho), (List.dropLast_concat_getLast _).symm⟩
    have hfl : Nb.flow s = s := by unfold Nb.flow; rw [if_pos hf]
    have hS : Nb.say s t = { s with blocks := bs ++ [((0 : Int), ws0 ++ [x ++ t])] } := by
      unfold Nb.say
      rw [if_neg ht, hfl]
      simp only
      rw [if_pos ho, hb, onLast_snoc]
      simp only [onLast_snoc]
    have hp1 : p.1 = bs.flatMap (·.2) ++ ws0 ++ [x] := by rw [← h.fl, hb]; simp
    rw [if_pos hp]
    refine ⟨by rw [hS]; exact ho, ?_, ?_, hnt, hal.lb.trans h.lb, hal.hd.trans h.hd, hal.ci.trans h.ci, hal.bb.trans h.bb, hal.ix.trans h.ix, hi⟩
    · rw [hS, hp1]
      simp only [onLast_snoc]
      simp
    · intro b hbm
      rw [hS] at hbm
      rcases List.mem_append.1 hbm with hbm | hbm
      · exact h.bl b (by rw [hb]; exact List.mem_append_left _ hbm)
      · simp only [List.mem_singleton] at hbm
        subst hbm
        exact ⟨rfl, by simp⟩
  | false =>
    have hp : ¬ p.2 = true := by rw [← h.op, ho]; simp
    rw [if_neg hp]
    cases hf : s.c.flows with
    | true =>
      obtain ⟨bs, ws, hb, hw⟩ := h.inv.fl hf
      have hfl : Nb.flow s = s := by unfold Nb.flow; rw [if_pos hf]
      have hS : Nb.say s t = { s with blocks := bs ++ [((0 : Int), ws ++ [t])], c := { s.c with op := true, words := s.c.words + 1 } } := by
        unfold Nb.say
        rw [if_neg ht, hfl]
        simp only
        rw [if_neg (by rw [ho]; simp), hb, onLast_snoc]
      refine ⟨by rw [hS], ?_, ?_, hnt, hal.lb.trans h.lb, hal.hd.trans h.hd, hal.ci.trans h.ci, hal.bb.trans h.bb, hal.ix.trans h.ix, hi⟩
      · rw [hS, ← h.fl, hb]
        simp
      · intro b hbm
        rw [hS] at hbm
        rcases List.mem_append.1 hbm with hbm | hbm
        · exact h.bl b (by rw [hb]; exact List.mem_append_left _ hbm)
        · simp only [List.mem_singleton] at hbm
          subst hbm
          exact ⟨rfl, by simp⟩
    | false =>
      have hS : (Nb.say s t).blocks = s.blocks ++ [((0 : Int), [t])] ∧ (Nb.say s t).c.op = true := by
        have hfl : Nb.flow s = { Nb.block s 0 [] with c := { s.c with flows := true } } := by unfold Nb.flow; rw [if_neg (by rw [hf]; simp)]
        unfold Nb.say
        rw [if_neg ht, hfl]
        simp [Nb.block, ho, onLast_snoc]
      refine ⟨hS.2, ?_, ?_, hnt, hal.lb.trans h.lb, hal.hd.trans h.hd, hal.ci.trans h.ci, hal.bb.trans h.bb, hal.ix.trans h.ix, hi⟩
      · rw [hS.1, ← h.fl]
        simp
      · intro b hbm
        rw [hS.1] at hbm
        rcases List.mem_append.1 hbm with hbm | hbm
        · exact h.bl b hbm
        · simp only [List.mem_singleton] at hbm
          subst hbm
          exact ⟨rfl, by simp⟩
theorem Pln.one {s : St} {p : List Bs × Bool} (h : Pln s p) (E : Env) (x : It) (hk : x.kind = 1 ∨ x.kind = 2 ∨ x.kind = 3) : Pln (Nb.one E s x) (plS p x) := by
  unfold Nb.one plS
  rcases hk with hk | hk | hk
  · rw [if_pos hk, if_pos hk]
    by_cases ht : x.s = []
    · rw [if_pos ht]
      have : Nb.say s x.s = s := by unfold Nb.say; rw [if_pos ht]
      rw [this]
      exact h
    · rw [if_neg ht]
      exact h.say x.s ht
  · rw [if_neg (by omega), if_pos hk, if_neg (by omega)]
    exact ⟨rfl, h.fl, h.bl, h.nt, h.lb, h.hd, h.ci, h.bb, h.ix, gap_inv h.inv⟩
  · simp only [hk, show ¬ ((3 : Int) = 1) by decide, show ¬ ((3 : Int) = 2) by decide, show ¬ ((3 : Int) = 4 ∨ (3 : Int) = 5) by decide, show ¬ ((3 : Int) = 6) by decide, show ¬ ((3 : Int) = 7 ∨ (3 : Int) = 8) by decide, show ¬ ((3 : Int) = 9) by decide, show ¬ ((3 : Int) = 10) by decide, show ¬ ((3 : Int) = 11) by decide, show ¬ ((3 : Int) = 12) by decide, show ¬ ((3 : Int) = 13 ∨ (3 : Int) = 14 ∨ (3 : Int) = 15) by decide, show ¬ ((3 : Int) = 16) by decide, if_false, if_true]
    exact ⟨rfl, h.fl, h.bl, h.nt, h.lb, h.hd, h.ci, h.bb, h.ix, Inv.close⟩
theorem run_pln (E : Env) (l : List It) (hl : ∀ x ∈ l, x.kind = 1 ∨ x.kind = 2 ∨ x.kind = 3) : Pln (run E l) (l.foldl plS ([], false)) := by
  have key : ∀ (l : List It) (s : St) (p : List Bs × Bool), Pln s p → (∀ x ∈ l, x.kind = 1 ∨ x.kind = 2 ∨ x.kind = 3) → Pln (l.foldl (one E) s) (l.foldl plS p) := by
    intro l
    induction l with
    | nil => intro s p h _; exact h
    | cons x l ih => intro s p h hl; exact ih _ _ (h.one E x (hl x (by simp))) (fun y hy => hl y (by simp [hy]))
  exact key l _ _ ⟨rfl, rfl, by simp [Nb.init], rfl, rfl, rfl, rfl, rfl, rfl, Inv.init⟩ hl
/-- What goes on has a last word. -/
theorem plS_ne (p : List Bs × Bool) (x : It) (h : p.2 = true → p.1 ≠ []) : (plS p x).2 = true → (plS p x).1 ≠ [] := by
  unfold plS
  split
  · split
    · exact h
    · split
      · rename_i hp
        intro _
        have h1 := h hp
        obtain ⟨a, b, e⟩ : ∃ a b, p.1 = a ++ [b] := ⟨p.1.dropLast, p.1.getLast h1, (List.dropLast_concat_getLast _).symm⟩
        simp only [e, onLast_snoc]
        simp
      · simp
  · simp
end Nb
end Go.Proofs.YtjmmfihmamcopaaDoor
