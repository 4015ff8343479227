/- The plain law: the program's pages are the reference's. No program in sight. -/
import Derived.Test.YtodbpnigadgliaaPgPl
namespace Go.Proofs.Ytodbpnigadgliaa

theorem tk_nl (h : Nat) (ys : List Int) : ∀ l, l ≤ h → (tk h ys l).1 = nl ys (h - l) + (if ys.getD (nl ys (h - l)) 0 = 2 then 1 else 0) ∧ (tk h ys l).2 = l + nl ys (h - l) := by
  induction ys with
  | nil => intro l _; cases h - l <;> simp [tk, nl]
  | cons x ys ih =>
    intro l hl
    by_cases hx : x = 2
    · have : nl (x :: ys) (h - l) = 0 := by cases h - l <;> simp [nl, hx]
      rw [this, tk, if_pos hx]
      simp [hx]
    · by_cases hlh : l = h
      · have : nl (x :: ys) (h - l) = 0 := by rw [show h - l = 0 from by omega]; rfl
        rw [this, tk, if_neg hx, if_pos hlh]
        simp [hx]
      · obtain ⟨d, hd⟩ : ∃ d, h - l = d + 1 := ⟨h - l - 1, by omega⟩
        have hi := ih (l + 1) (by omega)
        rw [show h - (l + 1) = d from by omega] at hi
        rw [tk, if_neg hx, if_neg hlh, hd, nl, if_neg hx]
        simp only [hi.1, hi.2]
        simp
        omega
theorem nl_line (ys : List Int) : ∀ m j, j < nl ys m → ¬ ys.getD j 0 = 2 := by
  induction ys with
  | nil => intro m j h; cases m <;> simp [nl] at h
  | cons x ys ih =>
    intro m j h
    cases m with
    | zero => simp [nl] at h
    | succ m =>
      rw [nl] at h
      by_cases hx : x = 2
      · rw [if_pos hx] at h; omega
      · rw [if_neg hx] at h
        cases j with
        | zero => simpa using hx
        | succ j => simpa using ih m j (by omega)
theorem nl_stop (ys : List Int) : ∀ m, nl ys m < ys.length → ¬ ys.getD (nl ys m) 0 = 2 → nl ys m = m := by
  induction ys with
  | nil => intro m h; cases m <;> simp [nl] at h
  | cons x ys ih =>
    intro m h h2
    cases m with
    | zero => rfl
    | succ m =>
      rw [nl] at h h2 ⊢
      by_cases hx : x = 2
      · rw [if_pos hx] at h2; exact absurd hx (by simpa using h2)
      · rw [if_neg hx] at h h2 ⊢
        rw [ih m (by simpa using h) (by simpa using h2)]
theorem nl_bound (ys : List Int) : ∀ m, nl ys m ≤ ys.length := by
  induction ys with
  | nil => intro m; cases m <;> simp [nl]
  | cons x ys ih =>
    intro m
    cases m with
    | zero => simp [nl]
    | succ m => have := ih m; unfold nl; split <;> simp; omega
theorem kb_nk (xs : List Int) (f : Nat) : ∀ c, f + c ≤ xs.length → kb xs f (f + c) = f + c - nk ((xs.drop f).take c).reverse ∧ nk ((xs.drop f).take c).reverse ≤ c := by
  intro c
  induction c with
  | zero => intro _; cases f <;> simp [kb, nk]
  | succ c ih =>
    intro h
    have hi := ih (by omega)
    have hl : c < (xs.drop f).length := by simp; omega
    rw [List.take_succ_eq_append_getElem hl, List.reverse_append]
    simp only [List.reverse_cons, List.reverse_nil, List.nil_append, List.cons_append, List.getElem_drop]
    rw [← Nat.add_assoc, kb, nk]
    have hg : xs.getD (f + c) 0 = xs[f + c] := by simp [show f + c < xs.length by omega]
    by_cases hx : xs[f + c] = 1
    · rw [if_pos ⟨by omega, by rw [hg]; exact hx⟩, if_pos hx, hi.1]; omega
    · rw [if_neg (fun h => hx (by rw [← hg]; exact h.2)), if_neg hx]; omega

theorem getD_drop (xs : List Int) (f j : Nat) : (xs.drop f).getD j 0 = xs.getD (f + j) 0 := by simp [List.getD]

theorem rOneF_eq (xs : List Int) (h : Nat) (hh : 1 ≤ h) : rOneF xs h = oneF xs h := by
  have hf := nb_le xs
  have ht := tk_nl h (xs.drop (nb xs)) 0 (Nat.zero_le _)
  have hb := nl_bound (xs.drop (nb xs)) h
  rw [Nat.sub_zero, getD_drop] at ht
  rw [List.length_drop] at hb
  have hline := nl_line (xs.drop (nb xs)) h
  have hstop := nl_stop (xs.drop (nb xs)) h
  simp only [getD_drop, List.length_drop] at hline hstop
  rw [oneF_at rfl ⟨rfl, rfl⟩, ht.1, ht.2]
  unfold rOneF
  simp only
  generalize nl (xs.drop (nb xs)) h = c at *
  generalize nb xs = f at *
  by_cases hA : f + c = xs.length
  · have hg : ¬ xs.getD (f + c) 0 = 2 := by simp [hA]
    rw [if_pos hA, if_neg hg, if_pos (.inr (.inl (by omega)))]; rfl
  · rw [if_neg hA]
    by_cases hB : xs.getD (f + c) 0 = 2
    · rw [if_pos hB, if_pos hB, if_pos]
      · omega
      · refine .inr (.inr (.inl ⟨by omega, ?_⟩))
        rw [show f + (c + 1) - 1 = f + c from by omega]; exact hB
    · have hc : c = h := hstop (by omega) hB
      have hk := kb_nk xs f c (by omega)
      rw [if_neg hB, if_neg hB]
      simp only [Nat.add_zero, Nat.zero_add]
      have hn : ¬ (c < h ∨ f + c = xs.length ∨ (f < f + c ∧ xs.getD (f + c - 1) 0 = 2) ∨ xs.getD (f + c) 0 = 2) := by
        rintro (h1 | h1 | h1 | h1)
        · omega
        · exact hA h1
        · refine hline (c - 1) (by omega) ?_
          rw [show f + (c - 1) = f + c - 1 from by omega]; exact h1.2
        · exact hB h1
      rw [if_neg hn, hk.1]
      split <;> split <;> omega
end Go.Proofs.Ytodbpnigadgliaa
