/- The plain functions of layer 13 (pages), with no program in sight. -/
namespace Go.Proofs.Ytodbpnigadgliaa

/-- leading breaks -/
def nb : List Int → Nat
  | [] => 0
  | x :: xs => if x = 2 then nb xs + 1 else 0
/-- the taking of lines: how many rows, how many lines -/
def tk (h : Nat) : List Int → Nat → Nat × Nat
  | [], l => (0, l)
  | x :: xs, l => if x = 2 then (1, l) else if l = h then (0, l) else ((tk h xs (l + 1)).1 + 1, (tk h xs (l + 1)).2)
/-- back over keeps -/
def kb (xs : List Int) (from' : Nat) : Nat → Nat
  | 0 => 0
  | e + 1 => if from' < e + 1 ∧ xs.getD e 0 = 1 then kb xs from' e else e + 1
def oneF (xs : List Int) (h : Nat) : Nat :=
  let f := nb xs
  let r := tk h (xs.drop f) 0
  let n := f + r.1
  if r.2 < h ∨ n = xs.length ∨ (f < n ∧ xs.getD (n - 1) 0 = 2) ∨ xs.getD n 0 = 2 then n
  else if kb xs f n = f then n else kb xs f n

theorem nb_le (xs : List Int) : nb xs ≤ xs.length := by
  induction xs with
  | nil => simp [nb]
  | cons x xs ih => unfold nb; split <;> simp <;> omega
theorem tk_le (h : Nat) (xs : List Int) : ∀ l, (tk h xs l).1 ≤ xs.length := by
  induction xs with
  | nil => simp [tk]
  | cons x xs ih => intro l; unfold tk; have := ih (l + 1); split <;> (try split) <;> simp <;> omega
theorem drop_at (xs : List Int) (k : Nat) (h : k < xs.length) : xs.drop k = xs.getD k 0 :: xs.drop (k + 1) := by
  rw [List.drop_eq_getElem_cons h]; simp [List.getD, List.getElem?_eq_getElem h]
theorem nb_yes (xs : List Int) (k : Nat) (h : k < xs.length) (h2 : xs.getD k 0 = 2) : nb (xs.drop k) = nb (xs.drop (k + 1)) + 1 := by
  rw [drop_at xs k h, nb, if_pos h2]
theorem nb_no (xs : List Int) (k : Nat) (h : k < xs.length) (h2 : ¬ xs.getD k 0 = 2) : nb (xs.drop k) = 0 := by
  rw [drop_at xs k h, nb, if_neg h2]
theorem nb_end (xs : List Int) (k : Nat) (h : ¬ k < xs.length) : nb (xs.drop k) = 0 := by
  rw [List.drop_of_length_le (by omega)]; rfl
theorem tk_brk (h : Nat) (xs : List Int) (k l : Nat) (hk : k < xs.length) (h2 : xs.getD k 0 = 2) : tk h (xs.drop k) l = (1, l) := by
  rw [drop_at xs k hk, tk, if_pos h2]
theorem tk_full (h : Nat) (xs : List Int) (k l : Nat) (hk : k < xs.length) (h2 : ¬ xs.getD k 0 = 2) (hl : l = h) : tk h (xs.drop k) l = (0, l) := by
  rw [drop_at xs k hk, tk, if_neg h2, if_pos hl]
theorem tk_on (h : Nat) (xs : List Int) (k l : Nat) (hk : k < xs.length) (h2 : ¬ xs.getD k 0 = 2) (hl : ¬ l = h) :
    tk h (xs.drop k) l = ((tk h (xs.drop (k + 1)) (l + 1)).1 + 1, (tk h (xs.drop (k + 1)) (l + 1)).2) := by
  rw [drop_at xs k hk, tk, if_neg h2, if_neg hl]
theorem tk_end (h : Nat) (xs : List Int) (k l : Nat) (hk : ¬ k < xs.length) : tk h (xs.drop k) l = (0, l) := by
  rw [List.drop_of_length_le (by omega)]; rfl
theorem kb_yes (xs : List Int) (f e : Nat) (h0 : f < e) (h1 : xs.getD (e - 1) 0 = 1) : kb xs f e = kb xs f (e - 1) := by
  obtain ⟨e, rfl⟩ : ∃ e', e = e' + 1 := ⟨e - 1, by omega⟩
  simp only [Nat.add_sub_cancel] at h1 ⊢
  rw [kb, if_pos ⟨h0, h1⟩]
theorem kb_no (xs : List Int) (f e : Nat) (h1 : ¬ (f < e ∧ xs.getD (e - 1) 0 = 1)) : kb xs f e = e := by
  cases e with
  | zero => rfl
  | succ e => simp only [Nat.add_sub_cancel] at h1; rw [kb, if_neg h1]
theorem oneF_at {xs : List Int} {h f m k : Nat} (hf : nb xs = f) (hmk : m = f + (tk h (xs.drop f) 0).1 ∧ k = (tk h (xs.drop f) 0).2) :
    oneF xs h = if k < h ∨ m = xs.length ∨ (f < m ∧ xs.getD (m - 1) 0 = 2) ∨ xs.getD m 0 = 2 then m else if kb xs f m = f then m else kb xs f m := by
  obtain ⟨h1, h2⟩ := hmk
  subst hf h1 h2
  rfl

/-- the page of a row: rows that are left, pages that are behind -/
def ofF : List Int → Int → Int → Int → Int
  | [], _, _, last => last
  | n :: ns, i, p, last => if i < n then p + 1 else ofF ns (i - n) (p + 1) last

theorem tk_full_pos (h : Nat) (xs : List Int) : ∀ l, l ≤ h → l < h → xs ≠ [] → 0 < (tk h xs l).1 := by
  intro l _ hl hne
  cases xs with
  | nil => exact absurd rfl hne
  | cons x xs =>
    unfold tk
    split
    · simp
    · rw [if_neg (by omega)]; simp
theorem kb_le (xs : List Int) (f : Nat) : ∀ e, kb xs f e ≤ e := by
  intro e
  induction e with
  | zero => simp [kb]
  | succ e ih => unfold kb; split <;> omega
theorem kb_ge (xs : List Int) (f : Nat) : ∀ e, f ≤ e → f ≤ kb xs f e := by
  intro e
  induction e with
  | zero => intro h; simp [kb]; omega
  | succ e ih => intro h; unfold kb; split <;> omega
theorem oneF_le (xs : List Int) (h : Nat) : oneF xs h ≤ xs.length := by
  have h1 := nb_le xs
  have h2 := tk_le h (xs.drop (nb xs)) 0
  rw [List.length_drop] at h2
  rw [oneF_at rfl ⟨rfl, rfl⟩]
  have h3 := kb_le xs (nb xs) (nb xs + (tk h (xs.drop (nb xs)) 0).1)
  split
  · omega
  · split <;> omega
theorem oneF_pos (xs : List Int) (h : Nat) (hh : 1 ≤ h) (hne : xs ≠ []) : 1 ≤ oneF xs h := by
  have h1 := nb_le xs
  have h2 := tk_le h (xs.drop (nb xs)) 0
  rw [List.length_drop] at h2
  have hx : 0 < xs.length := List.length_pos_iff.2 hne
  have hp : 1 ≤ nb xs + (tk h (xs.drop (nb xs)) 0).1 := by
    by_cases hd : xs.drop (nb xs) = []
    · have := List.drop_eq_nil_iff.1 hd; omega
    · have := tk_full_pos h (xs.drop (nb xs)) 0 (Nat.zero_le _) (by omega) hd; omega
  rw [oneF_at rfl ⟨rfl, rfl⟩]
  have h3 := kb_ge xs (nb xs) (nb xs + (tk h (xs.drop (nb xs)) 0).1) (by omega)
  split
  · exact hp
  · split
    · exact hp
    · omega

/-- the pages, with fuel -/
def pagesAux (h : Nat) : Nat → List Int → List Int
  | 0, _ => []
  | n + 1, xs => if xs = [] then [] else (oneF xs h : Int) :: pagesAux h n (xs.drop (oneF xs h))
def pagesF (xs : List Int) (h : Nat) : List Int := pagesAux h xs.length xs
theorem pagesAux_fuel (h : Nat) (hh : 1 ≤ h) : ∀ (n m : Nat) (xs : List Int), xs.length ≤ n → xs.length ≤ m → pagesAux h n xs = pagesAux h m xs := by
  intro n
  induction n with
  | zero =>
    intro m xs hn _
    have : xs = [] := List.eq_nil_of_length_eq_zero (by omega)
    subst this
    cases m <;> simp [pagesAux]
  | succ n ih =>
    intro m xs hn hm
    by_cases hx : xs = []
    · subst hx; cases m <;> simp [pagesAux]
    · have hl : 0 < xs.length := List.length_pos_iff.2 hx
      cases m with
      | zero => omega
      | succ m =>
        have hp := oneF_pos xs h hh hx
        simp only [pagesAux, if_neg hx]
        rw [ih m _ (by rw [List.length_drop]; omega) (by rw [List.length_drop]; omega)]
theorem pagesF_nil (h : Nat) : pagesF [] h = [] := rfl
theorem pagesF_cons (xs : List Int) (h : Nat) (hh : 1 ≤ h) (hx : xs ≠ []) : pagesF xs h = (oneF xs h : Int) :: pagesF (xs.drop (oneF xs h)) h := by
  have hl : 0 < xs.length := List.length_pos_iff.2 hx
  have hp := oneF_pos xs h hh hx
  obtain ⟨n, hn⟩ : ∃ n, xs.length = n + 1 := ⟨xs.length - 1, by omega⟩
  show pagesAux h xs.length xs = _
  rw [hn, pagesAux, if_neg hx]
  congr 1
  exact pagesAux_fuel h hh _ _ _ (by rw [List.length_drop]; omega) (Nat.le_refl _)
theorem pagesF_pos (h : Nat) (hh : 1 ≤ h) : ∀ (n : Nat) (xs : List Int), xs.length ≤ n → ∀ x ∈ pagesF xs h, 1 ≤ x ∧ x ≤ xs.length := by
  intro n
  induction n with
  | zero =>
    intro xs hn
    have : xs = [] := List.eq_nil_of_length_eq_zero (by omega)
    subst this
    simp [pagesF_nil]
  | succ n ih =>
    intro xs hn
    by_cases hx : xs = []
    · subst hx; simp [pagesF_nil]
    · have hl : 0 < xs.length := List.length_pos_iff.2 hx
      have hp := oneF_pos xs h hh hx
      have hq := oneF_le xs h
      rw [pagesF_cons xs h hh hx]
      intro x hm
      rcases List.mem_cons.1 hm with rfl | hm
      · omega
      · have := ih (xs.drop (oneF xs h)) (by rw [List.length_drop]; omega) x hm
        rw [List.length_drop] at this
        omega
theorem pagesF_len (h : Nat) (hh : 1 ≤ h) : ∀ (n : Nat) (xs : List Int), xs.length ≤ n → (pagesF xs h).length ≤ xs.length := by
  intro n
  induction n with
  | zero =>
    intro xs hn
    have : xs = [] := List.eq_nil_of_length_eq_zero (by omega)
    subst this
    simp [pagesF_nil]
  | succ n ih =>
    intro xs hn
    by_cases hx : xs = []
    · subst hx; simp [pagesF_nil]
    · have hl : 0 < xs.length := List.length_pos_iff.2 hx
      have hp := oneF_pos xs h hh hx
      rw [pagesF_cons xs h hh hx, List.length_cons]
      have := ih (xs.drop (oneF xs h)) (by rw [List.length_drop]; omega)
      rw [List.length_drop] at this
      omega

/-- the reference's counts -/
def nl : List Int → Nat → Nat
  | [], _ => 0
  | _, 0 => 0
  | x :: xs, m + 1 => if x = 2 then 0 else nl xs m + 1
def nk : List Int → Nat
  | [] => 0
  | x :: xs => if x = 1 then nk xs + 1 else 0
def rOneF (xs : List Int) (h : Nat) : Nat :=
  let b := nb xs
  let n := nl (xs.drop b) h
  if b + n = xs.length then b + n else if xs.getD (b + n) 0 = 2 then b + n + 1
  else
    let k := nk ((xs.drop b).take n).reverse
    if k = n then b + n else b + n - k
end Go.Proofs.Ytodbpnigadgliaa
