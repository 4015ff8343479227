/- Plain laws of a page: what it holds, where it ends; rows of other kinds. No program in sight. -/
import Derived.Test.YtodbpnigadgliaaPgLaw
namespace Go.Proofs.Ytodbpnigadgliaa

/-- lines, keeps of some rows -/
def cnt (xs : List Int) : Nat := (xs.filter (fun x => x != 2)).length
def cn1 (xs : List Int) : Nat := (xs.filter (fun x => x == 1)).length
theorem cnt_snoc (xs : List Int) (x : Int) : cnt (xs ++ [x]) = cnt xs + if x = 2 then 0 else 1 := by
  unfold cnt; rw [List.filter_append, List.length_append]
  by_cases h : x = 2 <;> simp [h]
theorem cn1_snoc (xs : List Int) (x : Int) : cn1 (xs ++ [x]) = cn1 xs + if x = 1 then 1 else 0 := by
  unfold cn1; rw [List.filter_append, List.length_append]
  by_cases h : x = 1 <;> simp [h]
theorem cnt_append (xs ys : List Int) : cnt (xs ++ ys) = cnt xs + cnt ys := by unfold cnt; rw [List.filter_append, List.length_append]
theorem cnt_le (xs : List Int) : cnt xs ≤ xs.length := List.length_filter_le _ _
theorem cn1_le (xs : List Int) : cn1 xs ≤ xs.length := List.length_filter_le _ _
theorem cn1_le_cnt (xs : List Int) : cn1 xs ≤ cnt xs := by
  induction xs with
  | nil => simp [cnt, cn1]
  | cons x xs ih =>
    unfold cnt cn1 at *
    by_cases h1 : x = 1
    · simp [h1]; exact ih
    · by_cases h2 : x = 2
      · simp [h2]; exact ih
      · simp [h1, h2]; omega
theorem cnt_take_le (xs : List Int) (m n : Nat) (h : m ≤ n) : cnt (xs.take m) ≤ cnt (xs.take n) := by
  have : xs.take n = xs.take m ++ (xs.take n).drop m := by
    conv => lhs; rw [← List.take_append_drop m (xs.take n)]
    rw [List.take_take, Nat.min_eq_left h]
  rw [this, cnt_append]; exact Nat.le_add_right _ _
theorem cnt_nb (xs : List Int) : ∀ j, j ≤ nb xs → cnt (xs.take j) = 0 := by
  induction xs with
  | nil => intro j _; simp [cnt]
  | cons x xs ih =>
    intro j hj
    cases j with
    | zero => simp [cnt]
    | succ j =>
      rw [nb] at hj
      by_cases h : x = 2
      · rw [if_pos h] at hj
        have := ih j (by omega)
        unfold cnt at *
        simpa [h] using this
      · rw [if_neg h] at hj; omega
theorem cnt_add (xs : List Int) (f c : Nat) : cnt (xs.take (f + c)) = cnt (xs.take f) + cnt ((xs.drop f).take c) := by
  rw [List.take_add, cnt_append]
theorem cnt_len (xs : List Int) : cnt xs ≤ xs.length := List.length_filter_le _ _

/-- one page, in the reference's words -/
theorem one_page (ys : List Int) (h : Nat) (hh : 1 ≤ h) :
    ∃ b c k : Nat, b + c ≤ ys.length ∧ c ≤ h ∧ b = nb ys ∧ (∀ j, j < c → ¬ ys.getD (b + j) 0 = 2) ∧ k = nk ((ys.drop b).take c).reverse ∧ k ≤ c ∧
      ((b + c = ys.length ∧ oneF ys h = b + c) ∨ (b + c < ys.length ∧ ys.getD (b + c) 0 = 2 ∧ oneF ys h = b + c + 1) ∨
       (b + c < ys.length ∧ ¬ ys.getD (b + c) 0 = 2 ∧ k = c ∧ oneF ys h = b + c) ∨ (b + c < ys.length ∧ ¬ ys.getD (b + c) 0 = 2 ∧ k < c ∧ oneF ys h = b + c - k)) := by
  have hb := nb_le ys
  have hn := nl_bound (ys.drop (nb ys)) h
  rw [List.length_drop] at hn
  have hline := nl_line (ys.drop (nb ys)) h
  simp only [getD_drop] at hline
  have hk := kb_nk ys (nb ys) (nl (ys.drop (nb ys)) h) (by omega)
  have hm : nl (ys.drop (nb ys)) h ≤ h := by
    have : ∀ (xs : List Int) m, nl xs m ≤ m := by
      intro xs
      induction xs with
      | nil => intro m; cases m <;> simp [nl]
      | cons x xs ih =>
        intro m
        cases m with
        | zero => simp [nl]
        | succ m => have := ih m; unfold nl; split <;> omega
    exact this _ _
  refine ⟨nb ys, nl (ys.drop (nb ys)) h, _, by omega, hm, rfl, hline, rfl, hk.2, ?_⟩
  rw [← rOneF_eq ys h hh]
  unfold rOneF
  simp only
  by_cases h1 : nb ys + nl (ys.drop (nb ys)) h = ys.length
  · exact .inl ⟨h1, by rw [if_pos h1]⟩
  · rw [if_neg h1]
    by_cases h2 : ys.getD (nb ys + nl (ys.drop (nb ys)) h) 0 = 2
    · exact .inr (.inl ⟨by omega, h2, by rw [if_pos h2]⟩)
    · rw [if_neg h2]
      by_cases h3 : nk ((ys.drop (nb ys)).take (nl (ys.drop (nb ys)) h)).reverse = nl (ys.drop (nb ys)) h
      · exact .inr (.inr (.inl ⟨by omega, h2, h3, by rw [if_pos h3]⟩))
      · exact .inr (.inr (.inr ⟨by omega, h2, by omega, by rw [if_neg h3]⟩))

/-- the last k are keeps, the one ahead of them is none -/
theorem nk_all (xs : List Int) : nk xs = xs.length → cn1 xs = xs.length := by
  induction xs with
  | nil => intro _; rfl
  | cons x xs ih =>
    intro h
    rw [nk] at h
    by_cases hx : x = 1
    · rw [if_pos hx] at h
      have := ih (by simpa using h)
      unfold cn1 at *
      rw [List.filter_cons, if_pos (by simp [hx]), List.length_cons, List.length_cons, this]
    · rw [if_neg hx] at h; simp at h
theorem cn1_reverse (xs : List Int) : cn1 xs.reverse = cn1 xs := by unfold cn1; rw [List.filter_reverse, List.length_reverse]
theorem nk_stop' (xs : List Int) : nk xs < xs.length → ¬ xs.getD (nk xs) 0 = 1 := by
  induction xs with
  | nil => intro h; simp [nk] at h
  | cons x xs ih =>
    intro h
    rw [nk] at h ⊢
    by_cases hx : x = 1
    · rw [if_pos hx] at h ⊢; simpa using ih (by simpa using h)
    · rw [if_neg hx]; simpa using hx

theorem page_break (ys : List Int) (h : Nat) (hh : 1 ≤ h) (i : Nat) (hi : i + 1 < oneF ys h) (h2 : ys.getD i 0 = 2) : cnt (ys.take i) = 0 := by
  obtain ⟨b, c, k, h0, _, hb, hl, _, hk, hc⟩ := one_page ys h hh
  by_cases hib : i ≤ b
  · exact cnt_nb ys i (by omega)
  · exfalso
    have : i < b + c := by omega
    refine hl (i - b) (by omega) ?_
    rw [show b + (i - b) = i from by omega]; exact h2
theorem page_lines (ys : List Int) (h : Nat) (hh : 1 ≤ h) : cnt (ys.take (oneF ys h)) ≤ h := by
  obtain ⟨b, c, k, h0, hc, hb, hl, _, hk, hcase⟩ := one_page ys h hh
  have h1 : cnt (ys.take (b + c)) ≤ h := by
    rw [cnt_add, cnt_nb ys b (by omega)]
    have := cnt_len ((ys.drop b).take c)
    simp only [List.length_take] at this
    omega
  rcases hcase with ⟨_, e⟩ | ⟨hlt, h2, e⟩ | ⟨_, _, _, e⟩ | ⟨_, _, _, e⟩
  · rw [e]; exact h1
  · have hg : ys.getD (b + c) 0 = ys[b + c] := by simp [hlt]
    rw [e, List.take_succ_eq_append_getElem hlt, cnt_snoc, if_pos (by rw [← hg]; exact h2)]; exact h1
  · rw [e]; exact h1
  · rw [e]; exact Nat.le_trans (cnt_take_le _ _ _ (by omega)) h1
theorem page_keep (ys : List Int) (h : Nat) (hh : 1 ≤ h) (hn : oneF ys h < ys.length) (hp : 1 ≤ oneF ys h) (hlast : ys.getD (oneF ys h - 1) 0 = 1) (hnext : ¬ ys.getD (oneF ys h) 0 = 2) :
    cnt (ys.take (oneF ys h)) ≤ cn1 (ys.take (oneF ys h)) := by
  obtain ⟨b, c, k, h0, hc, hb, hl, hkk, hk, hcase⟩ := one_page ys h hh
  rcases hcase with ⟨h1, e⟩ | ⟨hlt, h2, e⟩ | ⟨hlt, h2, h3, e⟩ | ⟨hlt, h2, h3, e⟩
  · omega
  · rw [e, show b + c + 1 - 1 = b + c from by omega] at hlast; omega
  · rw [e, cnt_add, cnt_nb ys b (by omega)]
    have hlen : ((ys.drop b).take c).length = c := by simp; omega
    have h4 := nk_all ((ys.drop b).take c).reverse (by rw [← hkk, List.length_reverse, hlen, h3])
    rw [cn1_reverse, List.length_reverse] at h4
    have h5 := cnt_len ((ys.drop b).take c)
    have h6 : cn1 (ys.take (b + c)) = cn1 (ys.take b) + cn1 ((ys.drop b).take c) := by
      rw [List.take_add]; unfold cn1; rw [List.filter_append, List.length_append]
    omega
  · exfalso
    have hlen : ((ys.drop b).take c).length = c := by simp; omega
    have h4 := nk_stop' ((ys.drop b).take c).reverse (by rw [← hkk, List.length_reverse, hlen]; exact h3)
    rw [← hkk] at h4
    apply h4
    have hk2 : k < ((ys.drop b).take c).reverse.length := by rw [List.length_reverse, hlen]; exact h3
    have hlt2 : b + (c - 1 - k) < ys.length := by omega
    rw [e, show b + c - k - 1 = b + (c - 1 - k) from by omega] at hlast
    simp only [List.getD, List.getElem?_eq_getElem hlt2, Option.getD_some] at hlast
    simp only [List.getD, List.getElem?_eq_getElem hk2, Option.getD_some, List.getElem_reverse, List.getElem_take, List.getElem_drop, hlen]
    exact hlast
end Go.Proofs.Ytodbpnigadgliaa
