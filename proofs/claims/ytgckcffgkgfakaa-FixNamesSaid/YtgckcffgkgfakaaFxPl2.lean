/- The plain law of fix, more: other names, more states. -/
import Derived.Test.YtgckcffgkgfakaaFxPl
namespace Go.Proofs.Ytgckcffgkgfakaa
namespace Fx
theorem fidx_map (g : Int → Int) (hg : ∀ x y, g x = g y → x = y) (l : List Int) (x : Int) : fidx (l.map g) (g x) = fidx l x := by
  induction l with
  | nil => rfl
  | cons a l ih =>
    simp only [List.map_cons, fidx]
    by_cases h : a = x
    · rw [if_pos h, if_pos (by rw [h])]
    · rw [if_neg h, if_neg (fun e => h (hg _ _ e)), ih]
theorem last_map (g : Int → Int) (l : List Int) (h : 0 < l.length) : (l.map g).getLastD 0 = g (l.getLastD 0) := by
  cases l with
  | nil => simp at h
  | cons a l =>
    have e1 : (a :: l).getLastD 0 = (a :: l).getLast (by simp) := by rw [List.getLastD_eq_getLast?, List.getLast?_eq_some_getLast (by simp)]; rfl
    have e2 : ((a :: l).map g).getLastD 0 = ((a :: l).map g).getLast (by simp) := by rw [List.getLastD_eq_getLast?, List.getLast?_eq_some_getLast (by simp)]; rfl
    rw [e1, e2, List.getLast_map]
theorem jv_map (g : Int → Int) (hg : ∀ x y, g x = g y → x = y) (B : Int) (pre : List Int) (x : Int) : jv B (pre.map g) (g x) = jv B pre x := by
  unfold jv
  rw [fidx_map g hg, List.length_map]
  by_cases h : 0 < pre.length ∧ pre.getLastD 0 = x
  · rw [if_pos h, if_pos ⟨h.1, by rw [last_map g pre h.1, h.2]⟩]
  · rw [if_neg h, if_neg (fun h2 => h ⟨h2.1, hg _ _ (by rw [← last_map g pre h2.1]; exact h2.2)⟩)]
theorem go_map (g : Int → Int) (hg : ∀ x y, g x = g y → x = y) (B : Int) (xs : List Int) : ∀ pre, go B (pre.map g) (xs.map g) = go B pre xs := by
  induction xs with
  | nil => intro pre; rfl
  | cons x xs ih =>
    intro pre
    simp only [List.map_cons, go, jv_map g hg]
    rw [show pre.map g ++ [g x] = (pre ++ [x]).map g by simp, ih]
theorem of_map (g : Int → Int) (hg : ∀ x y, g x = g y → x = y) (l : List Int) (b : Int) : ofF (l.map g) b = ofF l b := go_map g hg _ l []
theorem go_more (B : Int) (xs ys : List Int) : ∀ pre, (go B pre xs).1 ≠ 0 → go B pre (xs ++ ys) = go B pre xs := by
  induction xs with
  | nil => intro pre h; simp [go] at h
  | cons x xs ih =>
    intro pre h
    by_cases hx : (jv B pre x).1 = 0
    · rw [go_step _ _ _ _ hx] at h
      rw [List.cons_append, go_step _ _ _ _ hx, go_step _ _ _ _ hx, ih _ h]
    · rw [List.cons_append, go_stop _ _ _ _ hx, go_stop _ _ _ _ hx]
theorem of_more (l : List Int) (k : Nat) (b : Int) (h : (ofF (l.take k) b).1 ≠ 0) : ofF l b = ofF (l.take k) b := by
  have := go_more (max b 1) (l.take k) (l.drop k) [] h
  rw [List.take_append_drop] at this
  exact this
/-- Where it is still running no two are the same, and there are no more than the bound. -/
theorem go_run (B : Int) (xs : List Int) : ∀ pre, (go B pre xs).1 = 0 → (∀ x ∈ xs, x ∉ pre) ∧ xs.Nodup ∧ (xs ≠ [] → ((pre.length + xs.length : Nat) : Int) ≤ B) := by
  induction xs with
  | nil => intro pre _; simp
  | cons x xs ih =>
    intro pre h
    by_cases hx : (jv B pre x).1 = 0
    · rw [go_step _ _ _ _ hx] at h
      obtain ⟨h1, h2, h3⟩ := ih _ h
      obtain ⟨_, h4, h5⟩ := jv_zero hx
      refine ⟨fun y hy => ?_, List.nodup_cons.2 ⟨fun hm => ?_, h2⟩, fun _ => ?_⟩
      · rcases List.mem_cons.1 hy with rfl | hy
        · exact h4
        · exact fun hp => h1 y hy (by simp [hp])
      · exact h1 x hm (by simp)
      · by_cases he : xs = []
        · subst he
          simp
          omega
        · have := h3 he
          simp at this ⊢
          omega
    · rw [go_stop _ _ _ _ hx] at h
      exact absurd h hx
theorem of_run (l : List Int) (b : Int) (h : (ofF l b).1 = 0) : (∀ i j (hi : i < l.length) (hj : j < i), l[i] ≠ l[j]) ∧ (l.length : Int) ≤ max b 1 := by
  obtain ⟨_, h2, h3⟩ := go_run (max b 1) l [] h
  refine ⟨fun i j hi hj => ?_, ?_⟩
  · have := List.pairwise_iff_getElem.1 h2 j i (by omega) hi hj
    exact fun e => this e.symm
  · by_cases he : l = []
    · subst he
      simp
      omega
    · simpa using h3 he
end Fx
end Go.Proofs.Ytgckcffgkgfakaa
