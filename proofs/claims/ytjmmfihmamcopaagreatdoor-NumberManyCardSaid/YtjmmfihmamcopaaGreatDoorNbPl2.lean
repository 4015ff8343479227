/- number: what stays within bounds, operation by operation. Plain Lean. -/
import Derived.Test.YtjmmfihmamcopaaGreatDoorNbPl
namespace Go.Proofs.YtjmmfihmamcopaaGreatDoor
open Tx
namespace Nb
section
variable {s : St} {T : Nat}
theorem Bd.note (h : Bd s T) (e : Int) (t : Bs) : Bd (note s e t) (T + 1) := by
  obtain ⟨a, b, c, d, e', f, g, i, j, k, l, m, n, o, p, q⟩ := h.mono (Nat.le_succ T)
  refine ⟨a, b, ?_, d, e', f, g, i, j, k, l, m, n, o, p, q⟩
  have := h.nt
  simp only [Nb.note, List.length_append, List.length_singleton]
  omega
theorem Inv.note (h : Inv s) (e : Int) (t : Bs) : Inv (note s e t) := ⟨h.op, h.fl⟩
theorem Bd.noteIf (h : Bd s T) (b : Bool) (t : Bs) : Bd (noteIf s b t) (T + 1) := by
  cases b with
  | true => exact h.note 3 t
  | false => exact h.mono (Nat.le_succ T)
theorem Inv.noteIf (h : Inv s) (b : Bool) (t : Bs) : Inv (noteIf s b t) := by
  cases b with
  | true => exact h.note 3 t
  | false => exact h
theorem Bd.close (h : Bd s T) : Bd (close s) T := ⟨h.bl, h.wd, h.nt, h.la, h.ia, h.ha, h.hd, h.lb, h.ci, h.bb, h.ix, h.wo, h.sc, h.su, h.ow, h.og⟩
theorem Inv.close : Inv (Nb.close s) := ⟨fun h => absurd h (by simp [Nb.close]), fun h => absurd h (by simp [Nb.close])⟩
theorem Bd.block (h : Bd s T) (kd : Int) (ws : List Bs) (m : Nat) (h1 : ws.length ≤ m) (h2 : ∀ w ∈ ws, w.length ≤ m) : Bd (block s kd ws) (T + m + 1) := by
  obtain ⟨a, b, c, d, e', f, g, i, j, k, l, w, n, o, p, q⟩ := h.mono (show T ≤ T + m + 1 by omega)
  refine ⟨?_, fun x hx => ?_, c, d, e', f, g, i, j, k, l, ?_, n, o, p, q⟩
  · have := h.bl
    simp only [Nb.block, List.length_append, List.length_singleton]
    omega
  · simp only [Nb.block] at hx
    rcases List.mem_append.1 hx with hx | hx
    · exact b x hx
    · simp only [List.mem_singleton] at hx
      subst hx
      exact ⟨by simp only; omega, fun w hw => by have := h2 w hw; omega⟩
  · have := h.wo
    simp only [Nb.block]
    omega
theorem flow_blocks (hi : Inv s) : ∃ bs ws, (flow s).blocks = bs ++ [((0 : Int), ws)] ∧ ((flow s).c.op = true → ws ≠ []) ∧ (flow s).c.flows = true := by
  unfold flow
  cases hf : s.c.flows with
  | true =>
    obtain ⟨bs, ws, h1, h2⟩ := hi.fl hf
    rw [if_pos rfl]
    exact ⟨bs, ws, h1, h2, hf⟩
  | false =>
    rw [if_neg (by simp)]
    refine ⟨s.blocks, [], rfl, fun ho => ?_, rfl⟩
    have := hi.op ho
    rw [hf] at this
    cases this
theorem Bd.flow (h : Bd s T) : Bd (flow s) (T + 1) := by
  unfold Nb.flow
  split
  · exact h.mono (Nat.le_succ T)
  · have := h.block 0 [] 0 (by simp) (by simp)
    exact ⟨this.bl, this.wd, this.nt, this.la, this.ia, this.ha, this.hd, this.lb, this.ci, this.bb, this.ix, this.wo, this.sc, this.su, this.ow, this.og⟩
theorem Bd.say (h : Bd s T) (hi : Inv s) (t : Bs) (m : Nat) (ht : t.length ≤ m) : Bd (say s t) (T + m + 2) := by
  unfold Nb.say
  split
  · exact h.mono (by omega)
  · obtain ⟨bs, ws, hb, hop, _⟩ := flow_blocks hi
    have h2 := h.flow
    obtain ⟨a, b, c, d, e', f, g, i, j, k, l, w, n, o, p, q⟩ := h2.mono (show T + 1 ≤ T + m + 2 by omega)
    have hw := h2.wd (0, ws) (by rw [hb]; simp)
    have hlen : ∀ x : Int × List Bs, (bs ++ [x]).length = (Nb.flow s).blocks.length := fun x => by rw [hb]; simp
    simp only
    split
    · rename_i ho
      obtain ⟨ws0, x, rfl⟩ : ∃ a x, ws = a ++ [x] := ⟨ws.dropLast, ws.getLast (hop ho), (List.dropLast_concat_getLast _).symm⟩
      refine ⟨?_, fun y hy => ?_, c, d, e', f, g, i, j, k, l, w, n, o, p, q⟩
      · simp only [hb, onLast_snoc, hlen]; exact a
      · simp only [hb, onLast_snoc] at hy
        rcases List.mem_append.1 hy with hy | hy
        · exact b y (by rw [hb]; exact List.mem_append_left _ hy)
        · simp only [List.mem_singleton] at hy
          subst hy
          refine ⟨?_, fun z hz => ?_⟩
          · have := hw.1
            simp only [List.length_append, List.length_singleton] at this ⊢
            omega
          · simp only at hz
            rcases List.mem_append.1 hz with hz | hz
            · have := hw.2 z (List.mem_append_left _ hz)
              omega
            · simp only [List.mem_singleton] at hz
              subst hz
              have := hw.2 x (by simp)
              simp only [List.length_append]
              omega
    · refine ⟨?_, fun y hy => ?_, c, d, e', f, g, i, j, k, l, ?_, n, o, p, q⟩
      · simp only [hb, onLast_snoc, hlen]; exact a
      · simp only [hb, onLast_snoc] at hy
        rcases List.mem_append.1 hy with hy | hy
        · exact b y (by rw [hb]; exact List.mem_append_left _ hy)
        · simp only [List.mem_singleton] at hy
          subst hy
          refine ⟨?_, fun z hz => ?_⟩
          · have hw1 : ws.length ≤ T + 1 := hw.1
            simp only [List.length_append, List.length_singleton]
            omega
          · simp only at hz
            rcases List.mem_append.1 hz with hz | hz
            · have := hw.2 z hz
              omega
            · simp only [List.mem_singleton] at hz
              subst hz
              omega
      · have := h2.wo
        simp only
        omega
theorem Inv.say (hi : Inv s) (t : Bs) : Inv (say s t) := by
  unfold Nb.say
  split
  · exact hi
  · obtain ⟨bs, ws, hb, hop, hf⟩ := flow_blocks hi
    simp only
    split
    · rename_i ho
      obtain ⟨ws0, x, rfl⟩ : ∃ a x, ws = a ++ [x] := ⟨ws.dropLast, ws.getLast (hop ho), (List.dropLast_concat_getLast _).symm⟩
      exact ⟨fun _ => hf, fun _ => ⟨bs, ws0 ++ [x ++ t], by simp only [hb, onLast_snoc], fun _ => by simp⟩⟩
    · exact ⟨fun _ => hf, fun _ => ⟨bs, ws ++ [t], by simp only [hb, onLast_snoc], fun _ => by simp⟩⟩
theorem once_len (l : List Bs) (t : Bs) (most : Nat) : (once l t most).1.length ≤ l.length + 1 := by
  unfold once
  split
  · simp
  · split <;> simp
theorem Bd.cites (h : Bd s T) (l : List Bs) (hl : l.length ≤ T + 1) : Bd { s with cites := l } (T + 1) := by
  obtain ⟨a, b, c, d, e', f, g, i, j, k, l, w, n, o, p, q⟩ := h.mono (Nat.le_succ T)
  exact ⟨a, b, c, d, e', f, g, i, hl, k, l, w, n, o, p, q⟩
theorem Bd.bibs (h : Bd s T) (l : List Bs) (hl : l.length ≤ T + 1) : Bd { s with bibs := l } (T + 1) := by
  obtain ⟨a, b, c, d, e', f, g, i, j, k, l, w, n, o, p, q⟩ := h.mono (Nat.le_succ T)
  exact ⟨a, b, c, d, e', f, g, i, j, hl, l, w, n, o, p, q⟩
/-- What items are numbered over is small. -/
structure Env.Ok (E : Env) : Prop where
  lb : E.labels.length ≤ 200
  lbt : ∀ x ∈ E.labels, x.num.length ≤ 100
  hd : E.heads.length ≤ 200
  hdt : ∀ x ∈ E.heads, x.num.length ≤ 100 ∧ x.title.length ≤ 100
  bb : E.bbl.length ≤ 200
  bbt : ∀ x ∈ E.bbl, x.label.length ≤ 100 ∧ x.text.length ≤ 100
  ind : E.ind.length ≤ 200
  indt : ∀ x ∈ E.ind, x.length ≤ 100
end
end Nb
end Go.Proofs.YtjmmfihmamcopaaGreatDoor
