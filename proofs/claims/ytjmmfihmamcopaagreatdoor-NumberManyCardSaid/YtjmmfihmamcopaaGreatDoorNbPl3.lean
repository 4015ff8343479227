/- number: what an item leaves is within bounds. Plain Lean. -/
import Derived.Test.YtjmmfihmamcopaaGreatDoorNbR
namespace Go.Proofs.YtjmmfihmamcopaaGreatDoor
open Tx
namespace Nb
section
variable {s : St} {T : Nat}
theorem Bd.block1 (h : Bd s T) (hT : 600 ≤ T) (kd : Int) (ws : List Bs) (h1 : ws.length ≤ 600) (h2 : ∀ w ∈ ws, w.length ≤ 600) : Bd (Nb.block s kd ws) (T + 600) := by
  obtain ⟨a, b, c, d, e', f, g, i, j, k, l, w, n, o, p, q⟩ := h.mono (show T ≤ T + 600 by omega)
  refine ⟨?_, fun x hx => ?_, c, d, e', f, g, i, j, k, l, ?_, n, o, p, q⟩
  · have := h.bl
    simp only [Nb.block, List.length_append, List.length_singleton]
    omega
  · simp only [Nb.block] at hx
    rcases List.mem_append.1 hx with hx | hx
    · exact b x hx
    · simp only [List.mem_singleton] at hx
      subst hx
      exact ⟨by simp only; omega, fun w hw => by have := h2 w hw; omega⟩
  · have := h.wo
    simp only [Nb.block]
    omega
theorem Inv.block_close (s : St) (kd : Int) (ws : List Bs) (h : s.c.flows = false ∧ s.c.op = false) : Inv (Nb.block s kd ws) ∧ (Nb.block s kd ws).c.flows = false ∧ (Nb.block s kd ws).c.op = false :=
  ⟨⟨fun e => absurd (show s.c.op = true from e) (by simp [h.2]), fun e => absurd (show s.c.flows = true from e) (by simp [h.1])⟩, h.1, h.2⟩
theorem Inv.of_closed {s : St} (h : s.c.flows = false ∧ s.c.op = false) : Inv s := ⟨fun e => absurd e (by simp [h.2]), fun e => absurd e (by simp [h.1])⟩
theorem lines_closed : ∀ (l : List Bs) (s : St), s.c.flows = false ∧ s.c.op = false → (Nb.lines s l).c.flows = false ∧ (Nb.lines s l).c.op = false
  | [], _, h => h
  | t :: l, s, h => lines_closed l (Nb.block s 2 [t]) h
theorem noteIf_c (s : St) (b : Bool) (t : Bs) : (Nb.noteIf s b t).c = s.c := by cases b <;> rfl
theorem headNum_c (s : St) (x : It) : (headNum s x).flows = s.c.flows ∧ (headNum s x).op = s.c.op ∧ (headNum s x).words = s.c.words := by unfold headNum; split <;> exact ⟨rfl, rfl, rfl⟩
theorem Bd.index (h : Bd s T) (t : Bs) : Bd (Nb.indexT s t) (T + 1) := by
  unfold Nb.indexT
  split
  · exact h.note 3 t
  · obtain ⟨a, b, c, d, e', f, g, i, j, k, l, w, n, o, p, q⟩ := h.mono (Nat.le_succ T)
    refine ⟨a, b, c, d, ?_, f, g, i, j, k, ?_, w, n, o, p, q⟩
    · have := h.ia
      simp only [List.length_append, List.length_singleton]; omega
    · have := h.ix
      simp only [List.length_append, List.length_singleton]; omega
theorem Inv.index (h : Inv s) (t : Bs) : Inv (Nb.indexT s t) := by
  unfold Nb.indexT
  split
  · exact h.note 3 t
  · exact ⟨h.op, h.fl⟩
theorem Bd.label (h : Bd s T) (t : Bs) : Bd (Nb.label s t) (T + 1) := by
  unfold Nb.label
  split
  · exact h.note 12 t
  · split
    · exact h.note 3 t
    · obtain ⟨a, b, c, d, e', f, g, i, j, k, l, w, n, o, p, q⟩ := h.mono (Nat.le_succ T)
      refine ⟨a, b, c, ?_, e', f, g, ?_, j, k, l, w, n, o, p, q⟩
      · have := h.la
        simp only [List.length_append, List.length_singleton]; omega
      · have := h.lb
        simp only [List.length_append, List.length_singleton]; omega
theorem Inv.label (h : Inv s) (t : Bs) : Inv (Nb.label s t) := by
  unfold Nb.label
  split
  · exact h.note 12 t
  · split
    · exact h.note 3 t
    · exact ⟨h.op, h.fl⟩
theorem step_inv (h : Inv s) (L : Bs) (o : Cn) : Inv { s with own := o, c := { s.c with last := L } } := ⟨h.op, h.fl⟩
theorem step_bd (h : Bd s T) (L : Bs) (o : Cn) (h1 : o.length ≤ T + 1) (h2 : ∀ u m, cnGet o u = some m → m ≤ T + 1) : Bd { s with own := o, c := { s.c with last := L } } (T + 1) := by
  obtain ⟨a, b, c, d, e', f, g, i, j, k, l, w, n, o', p, q⟩ := h.mono (Nat.le_succ T)
  exact ⟨a, b, c, d, e', f, g, i, j, k, l, w, n, o', h1, h2⟩
theorem cn_bd (h : Bd s T) (t : Bs) : (cnSet s.own t ((cnGet s.own t).getD 0 + 1)).length ≤ T + 1 ∧ ∀ u m, cnGet (cnSet s.own t ((cnGet s.own t).getD 0 + 1)) u = some m → m ≤ T + 1 := by
  have h0 : (cnGet s.own t).getD 0 ≤ T := by
    cases hc : cnGet s.own t with
    | none => simp
    | some m => exact h.og t m hc
  refine ⟨?_, fun u m hm => ?_⟩
  · have := h.ow
    rw [cnSet_len]
    split <;> omega
  · rw [cnGet_set] at hm
    by_cases hu : u = t
    · rw [if_pos hu] at hm
      injection hm with hm
      omega
    · rw [if_neg hu] at hm
      have := h.og u m hm
      omega
theorem Bd.step (h : Bd s T) (t : Bs) : Bd (Nb.step s t) (T + 1) := by
  obtain ⟨h1, h2⟩ := cn_bd h t
  rw [Nb.step]
  split
  · exact h.note 3 t
  · exact step_bd h _ _ h1 h2
theorem Inv.step (h : Inv s) (t : Bs) : Inv (Nb.step s t) := by
  rw [Nb.step]
  split
  · exact h.note 3 t
  · exact step_inv h _ _
theorem headNum_is (s : St) (x : It) : ∃ (n m : Nat) (L : Bs), headNum s x = { s.c with sec := n, sub := m, last := L } ∧ n ≤ s.c.sec + 1 ∧ m ≤ s.c.sub + 1 ∧ L.length ≤ 20 := by
  have d1 := dig_len6 ((s.c.sec + 1 : Nat) : Int)
  have d2 := dig_len6 ((s.c.sub + 1 : Nat) : Int)
  have d3 := dig_len6 (s.c.sec : Int)
  by_cases h4 : x.kind = 4
  · refine ⟨s.c.sec + 1, 0, dig ((s.c.sec + 1 : Nat) : Int), ?_, Nat.le_refl _, Nat.zero_le _, Nat.le_trans d1 (by decide)⟩
    rw [headNum, if_pos h4]
  · refine ⟨s.c.sec, s.c.sub + 1, dig (s.c.sec : Int) ++ 46 :: dig ((s.c.sub + 1 : Nat) : Int), ?_, Nat.le_succ _, Nat.le_refl _, by rw [List.length_append, List.length_cons]; exact Nat.le_trans (Nat.add_le_add d3 (Nat.succ_le_succ d2)) (by decide)⟩
    rw [headNum, if_neg h4]
theorem headNum_len (x : It) (h : Bd s T) : (headNum (Nb.close s) x).last.length ≤ 20 ∧ (headNum (Nb.close s) x).sec ≤ T + 1 ∧ (headNum (Nb.close s) x).sub ≤ T + 1 := by
  obtain ⟨n, m, L, e, h1, h2, h3⟩ := headNum_is (Nb.close s) x
  have h4 : (Nb.close s).c.sec ≤ T := h.sc
  have h5 : (Nb.close s).c.sub ≤ T := h.su
  rw [e]
  exact ⟨h3, by simp only; omega, by simp only; omega⟩
theorem head_to (h : Bd s T) (hT : 600 ≤ T) (c : Sc) (hw : c.words = s.c.words) (h1 : c.sec ≤ T + 1) (h2 : c.sub ≤ T + 1) (h3 : c.last.length ≤ 20) (lv : Int) (t : Bs) (ps : List Bs) (hp : ps.length ≤ 101 ∧ ∀ w ∈ ps, w.length ≤ 100) :
    Bd (Nb.block { Nb.close s with ha := s.ha ++ [(c.words : Int)], heads := s.heads ++ [⟨lv, c.last, t, 0⟩], c := c } 1 (c.last :: ps)) (T + 1000) := by
  refine (Bd.block1 (T := T + 1) ?_ (by omega) 1 _ (by simp only [List.length_cons]; omega) (fun w hw => ?_)).mono (by omega)
  · obtain ⟨a, b, cc, d, e', f, g, i, j, k, l, w, n, o, p, q⟩ := h.mono (Nat.le_succ T)
    refine ⟨a, b, cc, d, e', ?_, ?_, i, j, k, l, ?_, h1, h2, p, q⟩
    · have := h.ha
      simp only [List.length_append, List.length_singleton]; omega
    · have := h.hd
      simp only [List.length_append, List.length_singleton]; omega
    · simp only [hw]
      exact w
  · rcases List.mem_cons.1 hw with rfl | hw
    · omega
    · have := hp.2 w hw
      omega
theorem Bd.head (h : Bd s T) (hT : 600 ≤ T) (x : It) (hx : x.s.length ≤ 100) : Bd (Nb.head s x) (T + 1000) := by
  obtain ⟨_, _, hc⟩ := headNum_c (Nb.close s) x
  obtain ⟨h1, h2, h3⟩ := headNum_len x h
  have hsp := spl_len x.s
  unfold Nb.head
  split
  · exact (h.note 3 x.s).mono (by omega)
  · exact head_to h hT _ hc h2 h3 h1 _ x.s (spl x.s) ⟨by omega, fun w hw => by have := hsp.2 w hw; omega⟩
theorem Inv.head (h : Inv s) (x : It) : Inv (Nb.head s x) := by
  obtain ⟨h1, h2, _⟩ := headNum_c (Nb.close s) x
  unfold Nb.head
  split
  · exact h.note 3 x.s
  · exact (Inv.block_close _ 1 _ ⟨h1, h2⟩).1
theorem refer_bd {E : Env} (h : Bd s T) (hi : Inv s) (hE : E.Ok) (x : It) : Bd (Nb.refer E s x) (T + 200) ∧ Inv (Nb.refer E s x) := by
  unfold Nb.refer
  cases hf : find E.labels x.s with
  | none => exact ⟨((h.say hi [63, 63] 10 (by simp)).note 13 x.s).mono (by omega), (hi.say _).note _ _⟩
  | some l =>
    have := hE.lbt l (List.mem_of_find?_eq_some hf)
    simp only
    split
    · exact ⟨(h.say hi l.num 100 (by omega)).mono (by omega), hi.say _⟩
    · have := dig_len6 l.page
      exact ⟨(h.say hi (dig l.page) 100 (by omega)).mono (by omega), hi.say _⟩
theorem cite_bd {E : Env} (h : Bd s T) (hi : Inv s) (hE : E.Ok) (t : Bs) : Bd (Nb.cite E s t) (T + 300) ∧ Inv (Nb.cite E s t) := by
  rw [cite_eq]
  obtain ⟨h1, h2⟩ := citeS_bd h hi hE t
  have h3 := once_len (citeS E s t).cites t 100
  have h4 := h1.ci
  exact ⟨((h1.cites _ (by omega)).noteIf _ t).mono (by omega), Inv.noteIf (s := { citeS E s t with cites := (once (citeS E s t).cites t 100).1 }) ⟨h2.op, h2.fl⟩ _ t⟩
theorem rows_bd {E : Env} (h : Bd s T) (hT : 600 ≤ T) (hE : E.Ok) (x : It) : Bd (Nb.rows E s x) (T + 300) ∧ Inv (Nb.rows E s x) := by
  unfold Nb.rows
  have h0 := h.close
  simp only
  split
  · have h3 := once_len (Nb.close s).bibs x.s 8
    have h4 := h0.bb
    have h5 := (h0.bibs (once (Nb.close s).bibs x.s 8).1 (by omega)).noteIf (once (Nb.close s).bibs x.s 8).2 x.s
    refine ⟨(Bd.lines _ h5 (by omega) (ciLine_len hE)).mono (by have := hE.bb; simp; omega), Inv.of_closed (lines_closed _ _ ?_)⟩
    rw [noteIf_c]
    exact ⟨rfl, rfl⟩
  · split
    · exact ⟨(Bd.lines _ h0 hT (hdLine_len hE)).mono (by have := hE.hd; simp; omega), Inv.of_closed (lines_closed _ _ ⟨rfl, rfl⟩)⟩
    · exact ⟨(Bd.lines _ h0 hT (fun u hu => by have := hE.indt u hu; omega)).mono (by have := hE.ind; omega), Inv.of_closed (lines_closed _ _ ⟨rfl, rfl⟩)⟩
theorem gap_inv (hi : Inv s) : Inv { s with c := { s.c with op := false } } := by
  refine ⟨fun e => absurd (show false = true from e) (by simp), fun e => ?_⟩
  obtain ⟨bs, ws, h1, _⟩ := hi.fl e
  exact ⟨bs, ws, h1, fun e => absurd (show false = true from e) (by simp)⟩
theorem gap_bd (h : Bd s T) : Bd { s with c := { s.c with op := false } } T := ⟨h.bl, h.wd, h.nt, h.la, h.ia, h.ha, h.hd, h.lb, h.ci, h.bb, h.ix, h.wo, h.sc, h.su, h.ow, h.og⟩
theorem one_bd {E : Env} (h : Bd s T) (hi : Inv s) (hT : 600 ≤ T) (hE : E.Ok) (x : It) (hx : x.s.length ≤ 100) : Bd (Nb.one E s x) (T + 1000) ∧ Inv (Nb.one E s x) := by
  have key : ∀ p : St, (Bd p (T + 1000) ∧ Inv p) → ∀ q : St, (Bd q (T + 1000) ∧ Inv q) → ∀ c : Prop, ∀ d : Decidable c, Bd (@ite _ c d p q) (T + 1000) ∧ Inv (@ite _ c d p q) := fun p hp q hq c d => by
    split
    · exact hp
    · exact hq
  have d12 := dig_len6 (((cnGet s.own x.s).getD 0 : Nat) : Int)
  unfold Nb.one
  generalize dig (((cnGet s.own x.s).getD 0 : Nat) : Int) = L at *
  refine key _ ⟨(h.say hi x.s 100 hx).mono (by omega), hi.say _⟩ _ ?_ _ _
  refine key _ ⟨(gap_bd h).mono (by omega), gap_inv hi⟩ _ ?_ _ _
  refine key _ ⟨h.head hT x hx, hi.head x⟩ _ ?_ _ _
  refine key _ ⟨(h.label x.s).mono (by omega), hi.label x.s⟩ _ ?_ _ _
  refine key _ ?_ _ ?_ _ _
  · obtain ⟨a, b⟩ := refer_bd h hi hE x
    exact ⟨a.mono (by omega), b⟩
  refine key _ ?_ _ ?_ _ _
  · obtain ⟨a, b⟩ := cite_bd h hi hE x.s
    exact ⟨a.mono (by omega), b⟩
  refine key _ ⟨(h.index x.s).mono (by omega), hi.index x.s⟩ _ ?_ _ _
  refine key _ ⟨(h.step x.s).mono (by omega), hi.step x.s⟩ _ ?_ _ _
  refine key _ ⟨(h.say hi _ 100 (by omega)).mono (by omega), hi.say _⟩ _ ?_ _ _
  refine key _ ?_ _ ?_ _ _
  · obtain ⟨a, b⟩ := rows_bd h hT hE x
    exact ⟨a.mono (by omega), b⟩
  refine key _ ⟨(h.block1 hT 3 [] (by simp) (by simp)).close.mono (by omega), Inv.close⟩ _ ?_ _ _
  exact key _ ⟨h.close.mono (by omega), Inv.close⟩ _ ⟨h.mono (by omega), hi⟩ _ _
theorem run_bd {E : Env} (hE : E.Ok) (l : List It) (hl : ∀ x ∈ l, x.s.length ≤ 100) : Bd (run E l) (600 + 1000 * l.length) ∧ Inv (run E l) := by
  have key : ∀ (l : List It) (s : St) (T : Nat), Bd s T → Inv s → 600 ≤ T → (∀ x ∈ l, x.s.length ≤ 100) → Bd (l.foldl (one E) s) (T + 1000 * l.length) ∧ Inv (l.foldl (one E) s) := by
    intro l
    induction l with
    | nil => intro s T h hi _ _; exact ⟨h.mono (by simp), hi⟩
    | cons x l ih =>
      intro s T h hi hT hl
      obtain ⟨a, b⟩ := one_bd h hi hT hE x (hl x (by simp))
      obtain ⟨c, d⟩ := ih _ (T + 1000) a b (by omega) (fun y hy => hl y (by simp [hy]))
      exact ⟨c.mono (by simp only [List.length_cons]; omega), d⟩
  exact key l Nb.init 600 (Bd.init.mono (by omega)) Inv.init (by omega) hl
end
end Nb
end Go.Proofs.YtjmmfihmamcopaaGreatDoor
