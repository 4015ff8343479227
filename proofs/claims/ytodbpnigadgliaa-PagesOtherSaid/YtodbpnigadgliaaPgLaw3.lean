/- Plain laws: rows of other kinds are as Plain ones; enough pages for all lines. No program in sight. -/
import Derived.Test.YtodbpnigadgliaaPgLaw2
namespace Go.Proofs.Ytodbpnigadgliaa

def norm (x : Int) : Int := if x = 1 ∨ x = 2 then x else 0
theorem norm2 (x : Int) : norm x = 2 ↔ x = 2 := by
  unfold norm; split <;> omega
theorem norm1 (x : Int) : norm x = 1 ↔ x = 1 := by
  unfold norm; split <;> omega
theorem nb_norm (xs : List Int) : nb (xs.map norm) = nb xs := by
  induction xs with
  | nil => rfl
  | cons x xs ih => simp only [List.map_cons, nb, norm2, ih]
theorem tk_norm (h : Nat) (xs : List Int) : ∀ l, tk h (xs.map norm) l = tk h xs l := by
  induction xs with
  | nil => intro l; rfl
  | cons x xs ih => intro l; simp only [List.map_cons, tk, norm2, ih]
theorem getD_norm (xs : List Int) (j : Nat) : (xs.map norm).getD j 0 = norm (xs.getD j 0) := by
  simp only [List.getD, List.getElem?_map]
  cases xs[j]? <;> simp [norm]
theorem kb_norm (xs : List Int) (f : Nat) : ∀ e, kb (xs.map norm) f e = kb xs f e := by
  intro e
  induction e with
  | zero => rfl
  | succ e ih => simp only [kb, getD_norm, norm1, ih]
theorem oneF_norm (xs : List Int) (h : Nat) : oneF (xs.map norm) h = oneF xs h := by
  rw [oneF_at rfl ⟨rfl, rfl⟩, oneF_at (xs := xs) rfl ⟨rfl, rfl⟩]
  simp only [nb_norm, ← List.map_drop, tk_norm, kb_norm, getD_norm, norm2, List.length_map]
theorem pagesF_norm (h : Nat) (hh : 1 ≤ h) : ∀ (n : Nat) (xs : List Int), xs.length ≤ n → pagesF (xs.map norm) h = pagesF xs h := by
  intro n
  induction n with
  | zero =>
    intro xs hn
    have : xs = [] := List.eq_nil_of_length_eq_zero (by omega)
    subst this; rfl
  | succ n ih =>
    intro xs hn
    by_cases hx : xs = []
    · subst hx; rfl
    · have hp := oneF_pos xs h hh hx
      have hl : 0 < xs.length := List.length_pos_iff.2 hx
      rw [pagesF_cons xs h hh hx, pagesF_cons (xs.map norm) h hh (by simpa using hx), oneF_norm, ← List.map_drop, ih _ (by rw [List.length_drop]; omega)]
theorem cnt_norm (xs : List Int) : cnt (xs.map norm) = cnt xs := by
  unfold cnt
  induction xs with
  | nil => rfl
  | cons x xs ih =>
    have : (norm x != 2) = (x != 2) := by
      by_cases h : x = 2
      · rw [h]; rfl
      · have h' : ¬ norm x = 2 := fun e => h ((norm2 x).1 e)
        have hb : ∀ y : Int, ¬ y = 2 → (y != 2) = true := fun y hy => by simpa using hy
        rw [hb _ h, hb _ h']
    rw [List.map_cons, List.filter_cons, List.filter_cons, this]
    by_cases h : (x != 2) = true
    · rw [if_pos h, if_pos h, List.length_cons, List.length_cons, ih]
    · rw [if_neg h, if_neg h, ih]
theorem pages_enough (h : Nat) (hh : 1 ≤ h) : ∀ (n : Nat) (xs : List Int), xs.length ≤ n → cnt xs ≤ (pagesF xs h).length * h := by
  intro n
  induction n with
  | zero =>
    intro xs hn
    have : xs = [] := List.eq_nil_of_length_eq_zero (by omega)
    subst this; simp [cnt]
  | succ n ih =>
    intro xs hn
    by_cases hx : xs = []
    · subst hx; simp [cnt]
    · have hp := oneF_pos xs h hh hx
      have hl : 0 < xs.length := List.length_pos_iff.2 hx
      have h1 := page_lines xs h hh
      have h2 := ih (xs.drop (oneF xs h)) (by rw [List.length_drop]; omega)
      have h3 : cnt xs = cnt (xs.take (oneF xs h)) + cnt (xs.drop (oneF xs h)) := by
        conv => lhs; rw [← List.take_append_drop (oneF xs h) xs]
        rw [cnt_append]
      rw [pagesF_cons xs h hh hx, List.length_cons, Nat.add_mul]
      omega
end Go.Proofs.Ytodbpnigadgliaa
