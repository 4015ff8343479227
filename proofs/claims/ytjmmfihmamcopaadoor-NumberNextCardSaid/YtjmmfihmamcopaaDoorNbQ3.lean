/- number: what is counted, and where it stands. Plain Lean. -/
import Derived.Test.YtjmmfihmamcopaaDoorNbQ2
namespace Go.Proofs.YtjmmfihmamcopaaDoor
open Tx
namespace Nb
def secS (p : Nat × Nat) (h : Hd) : Nat × Nat := if h.level = 1 then (p.1 + 1, 0) else (p.1, p.2 + 1)
/-- The headings and subheadings counted. -/
def secs (l : List Hd) : Nat × Nat := l.foldl secS (0, 0)
def numD (p : Nat × Nat) (lv : Int) : Bs := if lv = 2 then dig p.1 ++ 46 :: dig p.2 else dig p.1
def flat (s : St) : List Bs := s.blocks.flatMap (·.2)
def Ris (l : List Int) (m : Int) : Prop := l.Pairwise (· ≤ ·) ∧ ∀ x ∈ l, 0 ≤ x ∧ x ≤ m
theorem Ris.mono {l : List Int} {m m' : Int} (h : Ris l m) (hm : m ≤ m') : Ris l m' := ⟨h.1, fun x hx => by have := h.2 x hx; omega⟩
theorem Ris.snoc {l : List Int} {m x : Int} (h : Ris l m) (hm : m ≤ x) (h0 : 0 ≤ x) : Ris (l ++ [x]) x := by
  refine ⟨List.pairwise_append.2 ⟨h.1, by simp, fun a ha b hb => ?_⟩, fun y hy => ?_⟩
  · simp only [List.mem_singleton] at hb
    have := h.2 a ha
    omega
  · rcases List.mem_append.1 hy with hy | hy
    · have := h.2 y hy
      omega
    · simp only [List.mem_singleton] at hy
      omega
theorem secs_len (l : List Hd) : (secs l).1 ≤ l.length ∧ (secs l).2 ≤ l.length := by
  have key : ∀ (l : List Hd) (p : Nat × Nat) (n : Nat), p.1 ≤ n ∧ p.2 ≤ n → (l.foldl secS p).1 ≤ n + l.length ∧ (l.foldl secS p).2 ≤ n + l.length := by
    intro l
    induction l with
    | nil => intro p n h; exact h
    | cons x l ih =>
      intro p n h
      have h1 : (secS p x).1 ≤ n + 1 ∧ (secS p x).2 ≤ n + 1 := by
        unfold secS
        split
        · exact ⟨by simp only; omega, by simp only; omega⟩
        · exact ⟨by simp only; omega, by simp only; omega⟩
      have h2 := ih (secS p x) (n + 1) h1
      simp only [List.foldl_cons, List.length_cons]
      omega
  have := key l (0, 0) 0 (by simp)
  unfold secs
  omega
theorem secs_snoc (l : List Hd) (h : Hd) : secs (l ++ [h]) = secS (secs l) h := by unfold secs; rw [List.foldl_append]; rfl
/-- What is so of a state that was reached. -/
structure Cts (s : St) : Prop where
  inv : Inv s
  wo : s.c.words = (flat s).length
  ll : s.la.length = s.labels.length
  hl : s.ha.length = s.heads.length
  il : s.ia.length = s.index.length
  lv : ∀ h ∈ s.heads, h.level = 1 ∨ h.level = 2
  cn : secs s.heads = (s.c.sec, s.c.sub)
  hn : ∀ i (h : i < s.heads.length), s.heads[i].num = numD (secs (s.heads.take (i + 1))) s.heads[i].level
  pl : ∀ i (h : i < s.heads.length), ∃ m : Nat, s.ha[i]? = some (m : Int) ∧ (flat s)[m]? = some s.heads[i].num ∧ m < s.c.words ∧ (s.c.op = true → m + 1 < s.c.words)
  ha : Ris s.ha s.c.words
  la : Ris s.la (here s)
  ia : Ris s.ia (here s)
theorem Cts.carry {s s' : St} (h : Cts s) (hi : Inv s') (hw : s'.c.words = (flat s').length) (e1 : s'.labels = s.labels) (e2 : s'.heads = s.heads) (e3 : s'.la = s.la) (e4 : s'.ha = s.ha) (e5 : s'.ia = s.ia) (e6 : s'.index = s.index) (e7 : s'.c.sec = s.c.sec) (e8 : s'.c.sub = s.c.sub)
    (h1 : here s ≤ here s') (h2 : s.c.words ≤ s'.c.words) (h3 : ∀ m, m < s.c.words → (s.c.op = true → m + 1 < s.c.words) → (flat s')[m]? = (flat s)[m]? ∧ (s'.c.op = true → m + 1 < s'.c.words)) : Cts s' := by
  obtain ⟨a, b, c, d, e, f, g, i, j, k, l, m⟩ := h
  refine ⟨hi, hw, by rw [e3, e1]; exact c, by rw [e4, e2]; exact d, by rw [e5, e6]; exact e, by rw [e2]; exact f, by rw [e2, e7, e8]; exact g, ?_, ?_, ?_, by rw [e3]; exact l.mono h1, by rw [e5]; exact m.mono h1⟩
  · simp only [e2]
    exact i
  · simp only [e2, e4]
    intro n hn
    obtain ⟨q, j1, j2, j3, j4⟩ := j n hn
    obtain ⟨x1, x2⟩ := h3 q j3 j4
    exact ⟨q, j1, x1.trans j2, by omega, x2⟩
  · rw [e4]
    exact k.mono (by omega)
theorem here_le (s : St) (h : Cts s) : 0 ≤ here s := by
  unfold here
  split
  · rename_i ho
    obtain ⟨bs, ws, hb, hw⟩ := h.inv.fl (h.inv.op ho)
    have h1 := h.wo
    have h2 := hw ho
    unfold flat at h1
    rw [hb] at h1
    simp only [List.flatMap_append, List.flatMap_cons, List.flatMap_nil, List.append_nil, List.length_append] at h1
    have : ws.length ≠ 0 := by simpa using h2
    omega
  · omega
theorem say_is {s : St} (hi : Inv s) (t : Bs) (ht : t ≠ []) : (s.c.op = true ∧ (∃ P x, flat s = P ++ [x] ∧ flat (Nb.say s t) = P ++ [x ++ t]) ∧ (Nb.say s t).c = s.c) ∨ (s.c.op = false ∧ flat (Nb.say s t) = flat s ++ [t] ∧ (Nb.say s t).c.op = true ∧ (Nb.say s t).c.words = s.c.words + 1) := by
  cases ho : s.c.op with
  | true =>
    left
    have hf := hi.op ho
    obtain ⟨bs, ws, hb, hw⟩ := hi.fl hf
    obtain ⟨ws0, x, rfl⟩ : ∃ a x, ws = a ++ [x] := ⟨ws.dropLast, ws.getLast (hw ho), (List.dropLast_concat_getLast _).symm⟩
    have hfl : Nb.flow s = s := by unfold Nb.flow; rw [if_pos hf]
    have hS : Nb.say s t = { s with blocks := bs ++ [((0 : Int), ws0 ++ [x ++ t])] } := by
      unfold Nb.say
      rw [if_neg ht, hfl]
      simp only
      rw [if_pos ho, hb, onLast_snoc]
      simp only [onLast_snoc]
    exact ⟨rfl, ⟨bs.flatMap (·.2) ++ ws0, x, by unfold flat; rw [hb]; simp, by unfold flat; rw [hS]; simp⟩, by rw [hS]⟩
  | false =>
    right
    cases hf : s.c.flows with
    | true =>
      obtain ⟨bs, ws, hb, hw⟩ := hi.fl hf
      have hfl : Nb.flow s = s := by unfold Nb.flow; rw [if_pos hf]
      have hS : Nb.say s t = { s with blocks := bs ++ [((0 : Int), ws ++ [t])], c := { s.c with op := true, words := s.c.words + 1 } } := by
        unfold Nb.say
        rw [if_neg ht, hfl]
        simp only
        rw [if_neg (by rw [ho]; simp), hb, onLast_snoc]
      exact ⟨rfl, by unfold flat; rw [hS, hb]; simp, by rw [hS], by rw [hS]⟩
    | false =>
      have hS : (Nb.say s t).blocks = s.blocks ++ [((0 : Int), [t])] ∧ (Nb.say s t).c.op = true ∧ (Nb.say s t).c.words = s.c.words + 1 := by
        have hfl : Nb.flow s = { Nb.block s 0 [] with c := { s.c with flows := true } } := by unfold Nb.flow; rw [if_neg (by rw [hf]; simp)]
        unfold Nb.say
        rw [if_neg ht, hfl]
        simp [Nb.block, ho, onLast_snoc]
      exact ⟨rfl, by unfold flat; rw [hS.1]; simp, hS.2.1, hS.2.2⟩
theorem say_lists (s : St) (t : Bs) : (Nb.say s t).la = s.la ∧ (Nb.say s t).ha = s.ha ∧ (Nb.say s t).ia = s.ia := by
  unfold Nb.say Nb.flow
  split
  · exact ⟨rfl, rfl, rfl⟩
  · simp only
    split <;> split <;> exact ⟨rfl, rfl, rfl⟩
theorem Cts.say {s : St} (h : Cts s) (t : Bs) : Cts (Nb.say s t) := by
  by_cases ht : t = []
  · have : Nb.say s t = s := by unfold Nb.say; rw [if_pos ht]
    rw [this]
    exact h
  have hal := say_al s t
  obtain ⟨l1, l2, l3⟩ := say_lists s t
  have hwo := h.wo
  rcases say_is h.inv t ht with ⟨ho, ⟨P, x, h1, h2⟩, h3⟩ | ⟨ho, h2, h3, h4⟩
  · refine h.carry (h.inv.say t) ?_ hal.lb hal.hd l1 l2 l3 hal.ix hal.sc hal.su ?_ (by rw [h3]; exact Nat.le_refl _) (fun m hm ho' => ⟨?_, fun _ => ?_⟩)
    · rw [h3, hwo, h1, h2]; simp
    · unfold here; rw [h3]; exact Int.le_refl _
    · have := ho' ho
      rw [hwo, h1] at this
      simp only [List.length_append, List.length_singleton] at this
      rw [h1, h2, List.getElem?_append_left (by omega), List.getElem?_append_left (by omega)]
    · rw [h3]; exact ho' ho
  · refine h.carry (h.inv.say t) ?_ hal.lb hal.hd l1 l2 l3 hal.ix hal.sc hal.su ?_ (by omega) (fun m hm ho' => ⟨?_, fun _ => by omega⟩)
    · rw [h4, h2, hwo]; simp
    · unfold here; rw [h3, h4, ho]; simp
    · rw [h2, List.getElem?_append_left (by omega)]
theorem Cts.note {s : St} (h : Cts s) (e : Int) (t : Bs) : Cts (Nb.note s e t) := h.carry (h.inv.note e t) h.wo rfl rfl rfl rfl rfl rfl rfl rfl (Int.le_refl _) (Nat.le_refl _) (fun _ _ ho => ⟨rfl, ho⟩)
theorem Cts.noteIf {s : St} (h : Cts s) (b : Bool) (t : Bs) : Cts (Nb.noteIf s b t) := by
  cases b with
  | true => exact h.note 3 t
  | false => exact h
theorem Cts.gap {s : St} (h : Cts s) : Cts { s with c := { s.c with op := false } } :=
  h.carry (gap_inv h.inv) h.wo rfl rfl rfl rfl rfl rfl rfl rfl (by unfold here; simp only; split <;> simp <;> omega) (Nat.le_refl _) (fun _ _ _ => ⟨rfl, fun e => absurd (show false = true from e) (by simp)⟩)
theorem Cts.close {s : St} (h : Cts s) : Cts (Nb.close s) :=
  h.carry Inv.close h.wo rfl rfl rfl rfl rfl rfl rfl rfl (by unfold here Nb.close; simp only; split <;> simp <;> omega) (Nat.le_refl _) (fun _ _ _ => ⟨rfl, fun e => absurd (show false = true from e) (by simp)⟩)
theorem flat_block (s : St) (k : Int) (ws : List Bs) : flat (Nb.block s k ws) = flat s ++ ws := by unfold flat Nb.block; simp
theorem Cts.block {s : St} (h : Cts s) (hc : s.c.flows = false ∧ s.c.op = false) (k : Int) (ws : List Bs) : Cts (Nb.block s k ws) := by
  have hwo := h.wo
  refine h.carry (Inv.block_close s k ws hc).1 ?_ rfl rfl rfl rfl rfl rfl rfl rfl ?_ (Nat.le_add_right _ _) (fun m hm _ => ⟨?_, fun e => absurd ((show s.c.op = true from e)) (by simp [hc.2])⟩)
  · rw [flat_block, List.length_append, ← hwo]; rfl
  · unfold here Nb.block; simp only [hc.2]; simp; omega
  · rw [flat_block, List.getElem?_append_left (by omega)]
theorem Cts.lines : ∀ (l : List Bs) {s : St}, Cts s → s.c.flows = false ∧ s.c.op = false → Cts (Nb.lines s l)
  | [], _, h, _ => h
  | t :: l, _, h, hc => Cts.lines l (h.block hc 2 [t]) hc
theorem Cts.own {s : St} (h : Cts s) (L : Bs) (o : Cn) : Cts { s with own := o, c := { s.c with last := L } } := h.carry (step_inv h.inv L o) h.wo rfl rfl rfl rfl rfl rfl rfl rfl (Int.le_refl _) (Nat.le_refl _) (fun _ _ ho => ⟨rfl, ho⟩)
theorem Cts.step {s : St} (h : Cts s) (t : Bs) : Cts (Nb.step s t) := by
  rw [Nb.step]
  split
  · exact h.note 3 t
  · exact h.own _ _
theorem Cts.cites {s : St} (h : Cts s) (l : List Bs) : Cts { s with cites := l } := h.carry ⟨h.inv.op, h.inv.fl⟩ h.wo rfl rfl rfl rfl rfl rfl rfl rfl (Int.le_refl _) (Nat.le_refl _) (fun _ _ ho => ⟨rfl, ho⟩)
theorem Cts.bibs {s : St} (h : Cts s) (l : List Bs) : Cts { s with bibs := l } := h.carry ⟨h.inv.op, h.inv.fl⟩ h.wo rfl rfl rfl rfl rfl rfl rfl rfl (Int.le_refl _) (Nat.le_refl _) (fun _ _ ho => ⟨rfl, ho⟩)
theorem Cts.refer {s : St} (h : Cts s) (E : Env) (x : It) : Cts (Nb.refer E s x) := by
  unfold Nb.refer
  cases find E.labels x.s with
  | none => exact (h.say _).note _ _
  | some l =>
    simp only
    split
    · exact h.say _
    · exact h.say _
theorem Cts.cite {s : St} (h : Cts s) (E : Env) (t : Bs) : Cts (Nb.cite E s t) := by
  have hs : Cts (citeS E s t) := by
    unfold citeS
    cases ciAt E.bbl t with
    | none => exact (h.say _).note _ _
    | some c => exact h.say _
  rw [cite_eq]
  exact (hs.cites _).noteIf _ _
theorem Cts.rows {s : St} (h : Cts s) (E : Env) (x : It) : Cts (Nb.rows E s x) := by
  have hc := h.close
  unfold Nb.rows
  simp only
  split
  · refine Cts.lines _ ((hc.bibs _).noteIf _ _) ?_
    rw [noteIf_c]
    exact ⟨rfl, rfl⟩
  · split
    · exact Cts.lines _ hc ⟨rfl, rfl⟩
    · exact Cts.lines _ hc ⟨rfl, rfl⟩
theorem Cts.label {s : St} (h : Cts s) (k : Bs) : Cts (Nb.label s k) := by
  have h0 := here_le s h
  unfold Nb.label
  split
  · exact h.note _ _
  · split
    · exact h.note _ _
    · obtain ⟨a, b, c, d, e, f, g, i, j, kk, l, m⟩ := h
      exact ⟨⟨a.op, a.fl⟩, b, by simp only [List.length_append, List.length_singleton, c], d, e, f, g, i, j, kk, (l.snoc (Int.le_refl _) h0), m⟩
theorem Cts.index {s : St} (h : Cts s) (k : Bs) : Cts (Nb.indexT s k) := by
  have h0 := here_le s h
  unfold Nb.indexT
  split
  · exact h.note _ _
  · obtain ⟨a, b, c, d, e, f, g, i, j, kk, l, m⟩ := h
    exact ⟨⟨a.op, a.fl⟩, b, c, d, by simp only [List.length_append, List.length_singleton, e], f, g, i, j, kk, l, (m.snoc (Int.le_refl _) h0)⟩
theorem headNum_cts (s : St) (x : It) (n t : Bs) (p : Int) : ((headNum s x).sec, (headNum s x).sub) = secS (s.c.sec, s.c.sub) ⟨if x.kind = 4 then 1 else 2, n, t, p⟩ ∧ (headNum s x).last = numD ((headNum s x).sec, (headNum s x).sub) (if x.kind = 4 then 1 else 2) := by
  rw [headNum]
  by_cases h4 : x.kind = 4
  · rw [if_pos h4, if_pos h4]
    exact ⟨by simp [secS], by simp [numD]⟩
  · rw [if_neg h4, if_neg h4]
    exact ⟨by simp [secS], by simp [numD]⟩
theorem Cts.headTo {s : St} (h : Cts s) (hc : s.c.flows = false ∧ s.c.op = false) (c : Sc) (c1 : c.flows = false) (c2 : c.op = false) (c3 : c.words = s.c.words) (lv : Int) (hlv : lv = 1 ∨ lv = 2) (t : Bs) (hs : (c.sec, c.sub) = secS (s.c.sec, s.c.sub) ⟨lv, c.last, t, 0⟩) (hn : c.last = numD (c.sec, c.sub) lv) (ps : List Bs) :
    Cts (Nb.block { s with ha := s.ha ++ [(c.words : Int)], heads := s.heads ++ [⟨lv, c.last, t, 0⟩], c := c } 1 (c.last :: ps)) := by
  obtain ⟨a, b, c', d, e, f, g, i, j, kk, l, m⟩ := h
  have hflat : flat (Nb.block { s with ha := s.ha ++ [(c.words : Int)], heads := s.heads ++ [⟨lv, c.last, t, 0⟩], c := c } 1 (c.last :: ps)) = flat s ++ (c.last :: ps) := flat_block _ _ _
  have hhere : here s ≤ here (Nb.block { s with ha := s.ha ++ [(c.words : Int)], heads := s.heads ++ [⟨lv, c.last, t, 0⟩], c := c } 1 (c.last :: ps)) := by
    unfold here Nb.block
    simp only [hc.2, c2, c3]
    simp
    omega
  have hsn : secs (s.heads ++ [⟨lv, c.last, t, 0⟩]) = (c.sec, c.sub) := by rw [secs_snoc, g, hs]
  have hnum : ∀ n (hn2 : n < (s.heads ++ [(⟨lv, c.last, t, 0⟩ : Hd)]).length), (s.heads ++ [(⟨lv, c.last, t, 0⟩ : Hd)])[n].num = numD (secs ((s.heads ++ [(⟨lv, c.last, t, 0⟩ : Hd)]).take (n + 1))) (s.heads ++ [(⟨lv, c.last, t, 0⟩ : Hd)])[n].level := by
    intro n hn2
    by_cases hlt : n < s.heads.length
    · rw [List.getElem_append_left hlt, List.take_append_of_le_length (by omega)]
      exact i n hlt
    · obtain rfl : n = s.heads.length := by simp only [List.length_append, List.length_singleton] at hn2; omega
      rw [List.take_of_length_le (by simp), hsn, List.getElem_concat_length rfl]
      exact hn
  have hpl : ∀ n (hn2 : n < (s.heads ++ [(⟨lv, c.last, t, 0⟩ : Hd)]).length), ∃ m : Nat, (s.ha ++ [(c.words : Int)])[n]? = some (m : Int) ∧ (flat s ++ (c.last :: ps))[m]? = some (s.heads ++ [(⟨lv, c.last, t, 0⟩ : Hd)])[n].num ∧ m < c.words + (c.last :: ps).length ∧ (c.op = true → m + 1 < c.words + (c.last :: ps).length) := by
    intro n hn2
    by_cases hlt : n < s.heads.length
    · obtain ⟨q, j1, j2, j3, j4⟩ := j n hlt
      refine ⟨q, ?_, ?_, by omega, fun e => absurd e (by simp [c2])⟩
      · rw [List.getElem?_append_left (by omega)]; exact j1
      · rw [List.getElem_append_left hlt, List.getElem?_append_left (by omega)]; exact j2
    · obtain rfl : n = s.heads.length := by simp only [List.length_append, List.length_singleton] at hn2; omega
      refine ⟨c.words, ?_, ?_, by simp, fun e => absurd e (by simp [c2])⟩
      · rw [← d, List.getElem?_concat_length]
      · rw [List.getElem_concat_length rfl, c3, b, List.getElem?_append_right (Nat.le_refl _)]
        simp
  refine ⟨(Inv.block_close _ 1 _ ⟨c1, c2⟩).1, ?_, c', ?_, e, ?_, hsn, ?_, ?_, ?_, l.mono hhere, m.mono hhere⟩
  · rw [hflat, List.length_append, ← b, ← c3]; rfl
  · show (s.ha ++ _).length = (s.heads ++ _).length
    simp only [List.length_append, List.length_singleton, d]
  · intro y hy
    rcases List.mem_append.1 hy with hy | hy
    · exact f y hy
    · simp only [List.mem_singleton] at hy
      subst hy
      exact hlv
  · intro n hn2
    change n < (s.heads ++ [(⟨lv, c.last, t, 0⟩ : Hd)]).length at hn2
    show (s.heads ++ [(⟨lv, c.last, t, 0⟩ : Hd)])[n].num = numD (secs ((s.heads ++ [(⟨lv, c.last, t, 0⟩ : Hd)]).take (n + 1))) (s.heads ++ [(⟨lv, c.last, t, 0⟩ : Hd)])[n].level
    exact hnum n hn2
  · intro n hn2
    rw [hflat]
    exact hpl n hn2
  · show Ris (s.ha ++ [(c.words : Int)]) ((c.words + (c.last :: ps).length : Nat) : Int)
    exact (kk.snoc (by omega) (by omega)).mono (by omega)
theorem Cts.head {s : St} (h : Cts s) (x : It) : Cts (Nb.head s x) := by
  obtain ⟨h1, h2, h3⟩ := headNum_c (Nb.close s) x
  unfold Nb.head
  split
  · exact h.note _ _
  · obtain ⟨h4, h5⟩ := headNum_cts (Nb.close s) x (headNum (Nb.close s) x).last x.s 0
    exact h.close.headTo ⟨rfl, rfl⟩ (headNum (Nb.close s) x) h1 h2 h3 (if x.kind = 4 then 1 else 2) (by split <;> simp) x.s h4 h5 (spl x.s)
theorem Cts.one {s : St} (h : Cts s) (E : Env) (x : It) : Cts (Nb.one E s x) := by
  have key : ∀ p : St, Cts p → ∀ q : St, Cts q → ∀ c : Prop, ∀ d : Decidable c, Cts (@ite _ c d p q) := fun p hp q hq c d => by
    split
    · exact hp
    · exact hq
  unfold Nb.one
  refine key _ (h.say _) _ ?_ _ _
  refine key _ h.gap _ ?_ _ _
  refine key _ (h.head x) _ ?_ _ _
  refine key _ (h.label _) _ ?_ _ _
  refine key _ (h.refer E x) _ ?_ _ _
  refine key _ (h.cite E _) _ ?_ _ _
  refine key _ (h.index _) _ ?_ _ _
  refine key _ (h.step _) _ ?_ _ _
  refine key _ (h.say _) _ ?_ _ _
  refine key _ (h.rows E x) _ ?_ _ _
  refine key _ ?_ _ (key _ h.close _ h _ _) _ _
  refine h.carry Inv.close ?_ rfl rfl rfl rfl rfl rfl rfl rfl ?_ (Nat.le_refl _) (fun m _ _ => ⟨?_, fun e => absurd (show false = true from e) (by simp)⟩)
  · show s.c.words + ([] : List Bs).length = (flat (Nb.block s 3 [])).length
    rw [flat_block, h.wo]; simp
  · unfold here Nb.close Nb.block; simp only; split <;> simp <;> omega
  · show (flat (Nb.block s 3 []))[m]? = _
    rw [flat_block, List.append_nil]
theorem run_cts (E : Env) (l : List It) : Cts (run E l) := by
  have key : ∀ (l : List It) (s : St), Cts s → Cts (l.foldl (one E) s) := by
    intro l
    induction l with
    | nil => intro s h; exact h
    | cons x l ih => intro s h; exact ih _ (h.one E x)
  refine key l _ ⟨Inv.init, rfl, rfl, rfl, rfl, by simp [Nb.init], rfl, by simp [Nb.init], by simp [Nb.init], ⟨by simp [Nb.init], by simp [Nb.init]⟩, ⟨by simp [Nb.init], by simp [Nb.init]⟩, ⟨by simp [Nb.init], by simp [Nb.init]⟩⟩
end Nb
end Go.Proofs.YtjmmfihmamcopaaDoor
