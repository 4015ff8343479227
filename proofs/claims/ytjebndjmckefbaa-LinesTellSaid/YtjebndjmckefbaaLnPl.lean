/- The plain functions and laws of layer 12 (lines), with no program in sight. -/
namespace Go.Proofs.Ytjebndjmckefbaa.Ln

/-- a word's width as it counts -/
def clip (x : Int) : Nat := (min (max x 0) 1000).toNat
/-- what the first n words take -/
def tks (W : List Nat) (n : Nat) : Nat := (W.take n).sum + n - 1
/-- a line's cost -/
def lc (width t : Nat) (last : Bool) : Nat := if last = true ∨ width < t then 0 else (width - t) * (width - t)

/-- the words of one more line, tried from n + 1 words on: the table of what is behind, the best so far -/
def inner (width : Nat) : Nat → Nat → List Nat → List (Nat × Nat) → Nat × Nat → Nat × Nat
  | _, _, [], _, cur => cur
  | t, n, w :: rest, D, cur =>
    if width < t + 1 + w then cur
    else
      let x := lc width (t + 1 + w) rest.isEmpty + (D.tail.headD (0, 0)).1
      inner width (t + 1 + w) (n + 1) rest D.tail (if x ≤ cur.1 then (x, n + 1) else cur)
/-- for each place: what the words from there on cost, and how many of them the first line has -/
def dp (width : Nat) : List Nat → List (Nat × Nat)
  | [] => [(0, 0)]
  | w :: W => inner width w 1 W (dp width W) (lc width w W.isEmpty + ((dp width W).headD (0, 0)).1, 1) :: dp width W
def best (width : Nat) (W : List Nat) : Nat × Nat := (dp width W).headD (0, 0)

theorem best_nil (width : Nat) : best width [] = (0, 0) := rfl
theorem best_cons (width w : Nat) (W : List Nat) : best width (w :: W) = inner width w 1 W (dp width W) (lc width w W.isEmpty + (best width W).1, 1) := rfl
theorem dp_len (width : Nat) (W : List Nat) : (dp width W).length = W.length + 1 := by
  induction W with
  | nil => rfl
  | cons w W ih => simp [dp, ih]
theorem dp_drop (width : Nat) (W : List Nat) : ∀ n, n ≤ W.length → (dp width W).drop n = dp width (W.drop n) := by
  induction W with
  | nil => intro n hn; obtain rfl : n = 0 := by simpa using hn
           rfl
  | cons w W ih =>
    intro n hn
    cases n with
    | zero => rfl
    | succ n => simp only [dp, List.drop_succ_cons]; exact ih n (by simpa using hn)
theorem dp_get (width : Nat) (W : List Nat) (n : Nat) (hn : n ≤ W.length) : (dp width W)[n]? = some (best width (W.drop n)) := by
  have h := dp_drop width W n hn
  have hl := dp_len width (W.drop n)
  rw [← List.head?_drop, h]
  unfold best
  cases hd : dp width (W.drop n) with
  | nil => rw [hd] at hl; simp at hl
  | cons x xs => rfl
theorem dp_tail (width : Nat) (w : Nat) (W : List Nat) : (dp width (w :: W)).tail = dp width W := rfl

/-- what m words in the first line come to -/
def cand (width : Nat) (W : List Nat) (m : Nat) : Nat := lc width (tks W m) (decide (m = W.length)) + (best width (W.drop m)).1
def feas (width : Nat) (W : List Nat) (m : Nat) : Prop := 1 ≤ m ∧ m ≤ W.length ∧ (m = 1 ∨ tks W m ≤ width)

theorem tks_succ (W : List Nat) (n : Nat) (h : n < W.length) (hn : 1 ≤ n) : tks W (n + 1) = tks W n + 1 + W[n] := by
  unfold tks
  rw [List.take_succ_eq_append_getElem h, List.sum_append]
  simp only [List.sum_cons, List.sum_nil]
  omega
theorem tks_one (w : Nat) (W : List Nat) : tks (w :: W) 1 = w := by simp [tks]
theorem tks_mono (W : List Nat) (n : Nat) (hn : 1 ≤ n) : ∀ m, n ≤ m → m ≤ W.length → tks W n ≤ tks W m := by
  intro m hnm
  induction m with
  | zero => intro _; omega
  | succ m ih =>
    intro hm
    by_cases h : n = m + 1
    · subst h; exact Nat.le_refl _
    · have h1 := ih (by omega) (by omega)
      have h2 := tks_succ W m (by omega) (by omega)
      omega

/-- the best of the first n: its cost, the most words at that cost -/
structure Top (width : Nat) (W : List Nat) (n : Nat) (r : Nat × Nat) : Prop where
  is : feas width W r.2
  eq : r.1 = cand width W r.2
  le : ∀ m, m ≤ n → feas width W m → r.1 ≤ cand width W m
  most : ∀ m, m ≤ n → feas width W m → cand width W m = r.1 → m ≤ r.2

theorem inner_top (width : Nat) (W : List Nat) : ∀ (rest : List Nat) (n : Nat) (cur : Nat × Nat), 1 ≤ n → n ≤ W.length → rest = W.drop n → Top width W n cur →
    Top width W W.length (inner width (tks W n) n rest (dp width rest) cur) := by
  intro rest
  induction rest with
  | nil =>
    intro n cur h1 h2 hr ht
    have : n = W.length := by
      have := congrArg List.length hr
      simp at this; omega
    subst this
    exact ht
  | cons w rest ih =>
    intro n cur h1 h2 hr ht
    have hlt : n < W.length := by
      have := congrArg List.length hr
      simp at this; omega
    have hw : W[n] = w ∧ W.drop (n + 1) = rest := by
      rw [List.drop_eq_getElem_cons hlt] at hr
      injection hr with e1 e2
      exact ⟨e1.symm, e2.symm⟩
    have hts := tks_succ W n hlt h1
    rw [hw.1] at hts
    unfold inner
    by_cases hgt : width < tks W n + 1 + w
    · rw [if_pos hgt]
      have hno : ∀ m, n < m → ¬ feas width W m := by
        rintro m hm ⟨f1, f2, f3 | f3⟩
        · omega
        · have := tks_mono W (n + 1) (by omega) m (by omega) f2
          omega
      refine ⟨ht.is, ht.eq, fun m hm hf => ?_, fun m hm hf => ?_⟩
      · rcases Nat.lt_or_ge n m with h | h
        · exact absurd hf (hno m h)
        · exact ht.le m h hf
      · rcases Nat.lt_or_ge n m with h | h
        · exact absurd hf (hno m h)
        · exact ht.most m h hf
    · rw [if_neg hgt]
      have hfn : feas width W (n + 1) := ⟨by omega, by omega, .inr (by omega)⟩
      have hlast : rest.isEmpty = decide (n + 1 = W.length) := by
        have hl : rest.length = W.length - (n + 1) := by rw [← hw.2]; simp
        cases rest with
        | nil => simp only [List.length_nil] at hl; simp; omega
        | cons x xs => simp only [List.length_cons] at hl; simp; omega
      have hx : lc width (tks W n + 1 + w) rest.isEmpty + (((dp width (w :: rest)).tail).headD (0, 0)).1 = cand width W (n + 1) := by
        unfold cand
        rw [hts, hlast, dp_tail, hw.2]; rfl
      simp only [hx]
      rw [dp_tail, ← hts]
      refine ih (n + 1) _ (by omega) (by omega) hw.2.symm ?_
      by_cases hle : cand width W (n + 1) ≤ cur.1
      · rw [if_pos hle]
        refine ⟨hfn, rfl, fun m hm hf => ?_, fun m hm hf _ => hm⟩
        rcases Nat.lt_or_ge n m with h | h
        · obtain rfl : m = n + 1 := by omega
          exact Nat.le_refl _
        · exact Nat.le_trans hle (ht.le m h hf)
      · rw [if_neg hle]
        refine ⟨ht.is, ht.eq, fun m hm hf => ?_, fun m hm hf he => ?_⟩
        · rcases Nat.lt_or_ge n m with h | h
          · obtain rfl : m = n + 1 := by omega
            omega
          · exact ht.le m h hf
        · rcases Nat.lt_or_ge n m with h | h
          · obtain rfl : m = n + 1 := by omega
            omega
          · exact ht.most m h hf he
theorem best_top (width : Nat) (W : List Nat) (h : W ≠ []) : Top width W W.length (best width W) := by
  cases W with
  | nil => exact absurd rfl h
  | cons w W =>
    rw [best_cons]
    have h1 : lc width w W.isEmpty + (best width W).1 = cand width (w :: W) 1 := by
      unfold cand
      rw [tks_one]
      have : W.isEmpty = decide (1 = (w :: W).length) := by cases W <;> simp
      rw [this]; rfl
    rw [h1]
    have := inner_top width (w :: W) W 1 (cand width (w :: W) 1, 1) (Nat.le_refl _) (by simp) (by simp) ?_
    · rw [tks_one] at this; exact this
    · have hf : feas width (w :: W) 1 := ⟨by omega, by simp, .inl rfl⟩
      refine ⟨hf, rfl, fun m hm hf' => ?_, fun m hm _ _ => hm⟩
      obtain rfl : m = 1 := by have := hf'.1; omega
      exact Nat.le_refl _

/-- what lines cost; none, unless they are lines, each of which may be -/
def costF (width : Nat) : List Nat → List Int → Option Nat
  | W, [] => if W.isEmpty then some 0 else none
  | W, n :: l =>
    if n < 1 ∨ (W.length : Int) < n then none
    else if 1 < n.toNat ∧ width < tks W n.toNat then none
    else (costF width (W.drop n.toNat) l).map (lc width (tks W n.toNat) (W.drop n.toNat).isEmpty + ·)

/-- the lines that cost least -/
def linesAux (width : Nat) : Nat → List Nat → List Int
  | 0, _ => []
  | n + 1, W => if W = [] then [] else ((best width W).2 : Int) :: linesAux width n (W.drop (best width W).2)
def linesF (width : Nat) (W : List Nat) : List Int := linesAux width W.length W
theorem best_pos (width : Nat) (W : List Nat) (h : W ≠ []) : 1 ≤ (best width W).2 ∧ (best width W).2 ≤ W.length := ⟨(best_top width W h).is.1, (best_top width W h).is.2.1⟩
theorem linesAux_fuel (width : Nat) : ∀ (n m : Nat) (W : List Nat), W.length ≤ n → W.length ≤ m → linesAux width n W = linesAux width m W := by
  intro n
  induction n with
  | zero =>
    intro m W hn _
    have : W = [] := List.eq_nil_of_length_eq_zero (by omega)
    subst this
    cases m <;> simp [linesAux]
  | succ n ih =>
    intro m W hn hm
    by_cases hW : W = []
    · subst hW; cases m <;> simp [linesAux]
    · have hl : 0 < W.length := List.length_pos_iff.2 hW
      cases m with
      | zero => omega
      | succ m =>
        have hp := best_pos width W hW
        simp only [linesAux, if_neg hW]
        rw [ih m _ (by rw [List.length_drop]; omega) (by rw [List.length_drop]; omega)]
theorem linesF_nil (width : Nat) : linesF width [] = [] := rfl
theorem linesF_cons (width : Nat) (W : List Nat) (h : W ≠ []) : linesF width W = ((best width W).2 : Int) :: linesF width (W.drop (best width W).2) := by
  have hl : 0 < W.length := List.length_pos_iff.2 h
  have hp := best_pos width W h
  obtain ⟨n, hn⟩ : ∃ n, W.length = n + 1 := ⟨W.length - 1, by omega⟩
  show linesAux width W.length W = _
  rw [hn, linesAux, if_neg h]
  congr 1
  exact linesAux_fuel width _ _ _ (by rw [List.length_drop]; omega) (Nat.le_refl _)

theorem isEmpty_drop (W : List Nat) (m : Nat) (h : m ≤ W.length) : (W.drop m).isEmpty = decide (m = W.length) := by
  have hl : (W.drop m).length = W.length - m := List.length_drop
  cases hd : W.drop m with
  | nil => rw [hd] at hl; simp only [List.length_nil] at hl; simp; omega
  | cons x xs => rw [hd] at hl; simp only [List.length_cons] at hl; simp; omega

theorem costF_one (width : Nat) (W : List Nat) (m : Nat) (l : List Int) (hf : feas width W m) :
    costF width W ((m : Int) :: l) = (costF width (W.drop m) l).map (lc width (tks W m) (decide (m = W.length)) + ·) := by
  have h1 := hf.1
  have h2 := hf.2.1
  have h3 : ¬ (1 < m ∧ width < tks W m) := by rintro ⟨a, b⟩; rcases hf.2.2 with h | h <;> omega
  rw [costF, if_neg (by omega), Int.toNat_natCast, if_neg h3, isEmpty_drop W m h2]
theorem costF_some {width : Nat} {W : List Nat} {n : Int} {l : List Int} {c : Nat} (h : costF width W (n :: l) = some c) :
    ∃ m c' : Nat, n = m ∧ feas width W m ∧ costF width (W.drop m) l = some c' ∧ c = lc width (tks W m) (decide (m = W.length)) + c' := by
  rw [costF] at h
  by_cases h1 : n < 1 ∨ (W.length : Int) < n
  · rw [if_pos h1] at h; cases h
  · rw [if_neg h1] at h
    by_cases h2 : 1 < n.toNat ∧ width < tks W n.toNat
    · rw [if_pos h2] at h; cases h
    · rw [if_neg h2] at h
      cases hc : costF width (W.drop n.toNat) l with
      | none => rw [hc] at h; cases h
      | some c' =>
        rw [hc, isEmpty_drop W _ (by omega)] at h
        injection h with h
        refine ⟨n.toNat, c', by omega, ⟨by omega, by omega, ?_⟩, hc, h.symm⟩
        rcases Nat.lt_or_ge 1 n.toNat with h3 | h3
        · exact .inr (Nat.le_of_not_lt fun h4 => h2 ⟨h3, h4⟩)
        · exact .inl (by omega)
theorem ne_of_feas {width : Nat} {W : List Nat} {m : Nat} (h : feas width W m) : W ≠ [] := by
  rintro rfl
  have := h.1; have := h.2.1; simp at this; omega
theorem costF_lines (width : Nat) : ∀ (n : Nat) (W : List Nat), W.length ≤ n → costF width W (linesF width W) = some (best width W).1 := by
  intro n
  induction n with
  | zero =>
    intro W hn
    have : W = [] := List.eq_nil_of_length_eq_zero (by omega)
    subst this; rfl
  | succ n ih =>
    intro W hn
    by_cases hW : W = []
    · subst hW; rfl
    · have ht := best_top width W hW
      have hp := best_pos width W hW
      rw [linesF_cons width W hW, costF_one width W _ _ ht.is, ih _ (by rw [List.length_drop]; omega), ht.eq]; rfl
theorem costF_ge (width : Nat) (l : List Int) : ∀ (W : List Nat) (c : Nat), costF width W l = some c → (best width W).1 ≤ c := by
  induction l with
  | nil =>
    intro W c h
    cases W with
    | nil => exact Nat.zero_le _
    | cons w W => simp [costF] at h
  | cons n l ih =>
    intro W c h
    obtain ⟨m, c', _, hf, hc, rfl⟩ := costF_some h
    have h1 := (best_top width W (ne_of_feas hf)).le m hf.2.1 hf
    have h2 := ih _ _ hc
    unfold cand at h1
    omega

/-- has a list the greater number where it differs first? -/
def aheadF : List Int → List Int → Bool
  | a :: l, b :: m => if a = b then aheadF l m else decide (b < a)
  | _, _ => false
theorem costF_lex (width : Nat) (l : List Int) : ∀ (W : List Nat), costF width W l = some (best width W).1 → aheadF l (linesF width W) = false := by
  induction l with
  | nil => intro W _; cases linesF width W <;> rfl
  | cons n l ih =>
    intro W h
    obtain ⟨m, c', rfl, hf, hc, he⟩ := costF_some h
    have hW := ne_of_feas hf
    have ht := best_top width W hW
    have h1 := ht.le m hf.2.1 hf
    have h2 := costF_ge width l _ _ hc
    have h3 : cand width W m = (best width W).1 := by unfold cand at *; omega
    have h4 := ht.most m hf.2.1 hf h3
    rw [linesF_cons width W hW, aheadF]
    by_cases hm : m = (best width W).2
    · rw [if_pos (by omega), ← hm]
      refine ih _ ?_
      rw [hc]
      congr 1
      unfold cand at h3
      omega
    · rw [if_neg (by omega)]
      simp; omega
theorem lines_nil (width : Nat) (W : List Nat) : linesF width W = [] ↔ W = [] := by
  constructor
  · intro h
    by_cases hW : W = []
    · exact hW
    · rw [linesF_cons width W hW] at h; cases h
  · rintro rfl; rfl
theorem lines_pos (width : Nat) : ∀ (n : Nat) (W : List Nat), W.length ≤ n → ∀ x ∈ linesF width W, 1 ≤ x ∧ x ≤ W.length := by
  intro n
  induction n with
  | zero =>
    intro W hn
    have : W = [] := List.eq_nil_of_length_eq_zero (by omega)
    subst this; simp [linesF_nil]
  | succ n ih =>
    intro W hn
    by_cases hW : W = []
    · subst hW; simp [linesF_nil]
    · have hp := best_pos width W hW
      rw [linesF_cons width W hW]
      intro x hx
      rcases List.mem_cons.1 hx with rfl | hx
      · omega
      · have := ih (W.drop (best width W).2) (by rw [List.length_drop]; omega) x hx
        rw [List.length_drop] at this
        omega
theorem lines_len (width : Nat) : ∀ (n : Nat) (W : List Nat), W.length ≤ n → (linesF width W).length ≤ W.length := by
  intro n
  induction n with
  | zero =>
    intro W hn
    have : W = [] := List.eq_nil_of_length_eq_zero (by omega)
    subst this; simp [linesF_nil]
  | succ n ih =>
    intro W hn
    by_cases hW : W = []
    · subst hW; simp [linesF_nil]
    · have hp := best_pos width W hW
      rw [linesF_cons width W hW, List.length_cons]
      have := ih (W.drop (best width W).2) (by rw [List.length_drop]; omega)
      rw [List.length_drop] at this
      omega

/-- bounds -/
theorem lc_le (width t : Nat) (b : Bool) (hw : width ≤ 1000) : lc width t b ≤ 1000000 := by
  unfold lc
  split
  · omega
  · have h1 : width - t ≤ 1000 := by omega
    exact Nat.le_trans (Nat.mul_le_mul h1 h1) (by decide)
theorem clip_le (x : Int) : clip x ≤ 1000 := by unfold clip; omega
theorem sum_le (W : List Nat) (h : ∀ w ∈ W, w ≤ 1000) : W.sum ≤ W.length * 1000 := by
  induction W with
  | nil => simp
  | cons w W ih =>
    have h1 := h w (List.mem_cons_self ..)
    have h2 := ih (fun x hx => h x (List.mem_cons_of_mem _ hx))
    simp only [List.sum_cons, List.length_cons]; omega
theorem tks_le (W : List Nat) (n : Nat) (h : ∀ w ∈ W, w ≤ 1000) : tks W n ≤ n * 1001 := by
  have h1 := sum_le (W.take n) (fun x hx => h x (List.mem_of_mem_take hx))
  have h2 : (W.take n).length ≤ n := List.length_take_le _ _
  unfold tks
  omega
theorem best_le (width : Nat) (hw : width ≤ 1000) : ∀ (n : Nat) (W : List Nat), W.length ≤ n → (best width W).1 ≤ W.length * 1000000 := by
  intro n
  induction n with
  | zero =>
    intro W hn
    have : W = [] := List.eq_nil_of_length_eq_zero (by omega)
    subst this; exact Nat.zero_le _
  | succ n ih =>
    intro W hn
    by_cases hW : W = []
    · subst hW; exact Nat.zero_le _
    · have ht := best_top width W hW
      have hp := best_pos width W hW
      have h1 := ih (W.drop (best width W).2) (by rw [List.length_drop]; omega)
      have h2 := lc_le width (tks W (best width W).2) (decide ((best width W).2 = W.length)) hw
      rw [List.length_drop] at h1
      rw [ht.eq]; unfold cand; omega

theorem inner_end (width : Nat) (U : List Nat) (t m : Nat) (D : List (Nat × Nat)) (h : U.length ≤ m) (cur : Nat × Nat) : inner width t m (U.drop m) D cur = cur := by
  rw [List.drop_of_length_le h]; rfl
theorem inner_go (width : Nat) (U : List Nat) (m : Nat) (hm : 1 ≤ m) (hl : m < U.length) (cur : Nat × Nat) :
    inner width (tks U m) m (U.drop m) (dp width (U.drop m)) cur = if width < tks U (m + 1) then cur else
      inner width (tks U (m + 1)) (m + 1) (U.drop (m + 1)) (dp width (U.drop (m + 1))) (if cand width U (m + 1) ≤ cur.1 then (cand width U (m + 1), m + 1) else cur) := by
  have hd : U.drop m = U[m] :: U.drop (m + 1) := List.drop_eq_getElem_cons hl
  have ht := tks_succ U m hl hm
  have hx : lc width (tks U (m + 1)) (U.drop (m + 1)).isEmpty + ((dp width (U.drop (m + 1))).headD (0, 0)).1 = cand width U (m + 1) := by
    unfold cand
    rw [isEmpty_drop U (m + 1) (by omega)]; rfl
  rw [hd, inner, dp_tail, ← ht]
  simp only [hx]
theorem best_start (width : Nat) (U : List Nat) (h : U ≠ []) : inner width (tks U 1) 1 (U.drop 1) (dp width (U.drop 1)) (cand width U 1, 1) = best width U := by
  cases U with
  | nil => exact absurd rfl h
  | cons u U =>
    rw [best_cons, tks_one]
    have : cand width (u :: U) 1 = lc width u U.isEmpty + (best width U).1 := by
      unfold cand
      rw [tks_one]
      have : U.isEmpty = decide (1 = (u :: U).length) := by cases U <;> simp
      rw [this]; rfl
    rw [this]; rfl
end Go.Proofs.Ytjebndjmckefbaa.Ln
