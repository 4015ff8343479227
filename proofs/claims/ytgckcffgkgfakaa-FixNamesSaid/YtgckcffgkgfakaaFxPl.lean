/- The plain law of fix: verdicts, orbits, where an orbit comes again. No program in sight. -/
import Derived.Test.YtgckcffgkgfakaaKit
namespace Go.Proofs.Ytgckcffgkgfakaa
namespace Fx

abbrev V := Int × Int × Int
def fidx : List Int → Int → Option Nat
  | [], _ => none
  | a :: l, x => if a = x then some 0 else (fidx l x).map (· + 1)
theorem fidx_snoc (l : List Int) (a x : Int) : fidx (l ++ [a]) x = match fidx l x with | some i => some i | none => if a = x then some l.length else none := by
  induction l with
  | nil => by_cases h : a = x <;> simp [fidx, h]
  | cons b l ih =>
    simp only [List.cons_append, fidx]
    by_cases h : b = x
    · simp [h]
    · rw [if_neg h, if_neg h, ih]
      cases fidx l x with
      | some i => simp
      | none => by_cases ha : a = x <;> simp [ha]
theorem fidx_some {l : List Int} {x : Int} {i : Nat} (h : fidx l x = some i) : ∃ hi : i < l.length, l[i] = x := by
  induction l generalizing i with
  | nil => cases h
  | cons b l ih =>
    simp only [fidx] at h
    by_cases hb : b = x
    · rw [if_pos hb] at h
      cases h
      exact ⟨by simp, hb⟩
    · rw [if_neg hb] at h
      cases hf : fidx l x with
      | none => rw [hf] at h; cases h
      | some k =>
        rw [hf] at h
        cases h
        obtain ⟨h1, h2⟩ := ih hf
        exact ⟨by simpa using h1, by simpa using h2⟩
theorem fidx_none {l : List Int} {x : Int} : fidx l x = none ↔ x ∉ l := by
  induction l with
  | nil => simp [fidx]
  | cons b l ih =>
    simp only [fidx, List.mem_cons, not_or]
    by_cases hb : b = x
    · simp [hb]
    · rw [if_neg hb]
      constructor
      · intro h
        refine ⟨fun e => hb e.symm, ?_⟩
        cases hf : fidx l x with
        | none => exact ih.1 hf
        | some k => rw [hf] at h; cases h
      · intro h
        rw [ih.2 h.2]; rfl
/-- The first place of the element at i, where no two are the same. -/
theorem fidx_at {l : List Int} (i : Nat) (hi : i < l.length) (hn : ∀ j (hj : j < i), l[j]'(by omega) ≠ l[i]) : fidx l l[i] = some i := by
  induction l generalizing i with
  | nil => simp at hi
  | cons b l ih =>
    cases i with
    | zero => simp [fidx]
    | succ i =>
      have h0 := hn 0 (by omega)
      simp only [List.getElem_cons_zero, List.getElem_cons_succ] at h0
      simp only [fidx, List.getElem_cons_succ]
      rw [if_neg h0, ih i (by simpa using hi) (fun j hj => by have := hn (j + 1) (by omega); simpa using this)]
      rfl

/-- The verdict when the state x comes behind pre. -/
def jv (B : Int) (pre : List Int) (x : Int) : V :=
  if 0 < pre.length ∧ pre.getLastD 0 = x then (1, (pre.length : Int) - 1, 0) else
  match fidx pre x with
  | some i => (2, (i : Int), (pre.length : Int))
  | none => if B ≤ pre.length then (3, 0, 0) else (0, 0, 0)
/-- The verdict of the states xs, behind pre. -/
def go (B : Int) : List Int → List Int → V
  | _, [] => (0, 0, 0)
  | pre, x :: xs => if (jv B pre x).1 ≠ 0 then jv B pre x else go B (pre ++ [x]) xs
def ofF (l : List Int) (b : Int) : V := go (max b 1) [] l

theorem go_step (B : Int) (pre : List Int) (x : Int) (xs : List Int) (h : (jv B pre x).1 = 0) : go B pre (x :: xs) = go B (pre ++ [x]) xs := by simp [go, h]
theorem go_stop (B : Int) (pre : List Int) (x : Int) (xs : List Int) (h : (jv B pre x).1 ≠ 0) : go B pre (x :: xs) = jv B pre x := by simp [go, h]
theorem jv_zero {B : Int} {pre : List Int} {x : Int} (h : (jv B pre x).1 = 0) : jv B pre x = (0, 0, 0) ∧ x ∉ pre ∧ (pre.length : Int) < B := by
  unfold jv at h ⊢
  split at h
  · simp at h
  · rename_i h1
    rw [if_neg h1]
    split at h
    · simp at h
    · rename_i h2
      split at h
      · simp at h
      · rename_i h3
        exact ⟨by simp only [h2, if_neg h3], fidx_none.1 h2, by omega⟩

/-- A list all of whose elements are below n, and no two the same, is no longer than n. -/
theorem pigeon : ∀ (n : Nat) (l : List Nat), l.Nodup → (∀ x ∈ l, x < n) → l.length ≤ n
  | 0, l, _, h => by
    cases l with
    | nil => simp
    | cons a l => have := h a (by simp); omega
  | n + 1, l, hd, h => by
    by_cases hm : n ∈ l
    · have h1 := pigeon n (l.erase n) (hd.erase n) (fun x hx => by
        have h2 := h x (List.mem_of_mem_erase hx)
        have h3 : x ≠ n := by rintro rfl; exact (List.Nodup.mem_erase_iff hd).1 hx |>.1 rfl
        omega)
      rw [List.length_erase_of_mem hm] at h1
      omega
    · have h1 := pigeon n l hd (fun x hx => by
        have h2 := h x hx
        have h3 : x ≠ n := by rintro rfl; exact hm hx
        omega)
      omega

/-- The k-th state of an orbit. -/
def orb (f : Nat → Nat) (s : Nat) : Nat → Nat
  | 0 => s
  | k + 1 => f (orb f s k)
structure Cyc (f : Nat → Nat) (s m r : Nat) : Prop where
  pos : 1 ≤ r
  same : orb f s (m + r) = orb f s m
  apart : ∀ i j, i < j → j < m + r → orb f s i ≠ orb f s j
theorem cyc_or (f : Nat → Nat) (s : Nat) : ∀ n, (∀ i j, i < j → j < n → orb f s i ≠ orb f s j) ∨ ∃ m r, Cyc f s m r ∧ m + r < n
  | 0 => .inl (fun i j _ h => by omega)
  | n + 1 => by
    rcases cyc_or f s n with h | ⟨m, r, h1, h2⟩
    · by_cases he : ∃ i, i < n ∧ orb f s i = orb f s n
      · obtain ⟨i, hi, he⟩ := he
        exact .inr ⟨i, n - i, ⟨by omega, by rw [show i + (n - i) = n by omega]; exact he.symm, fun a b hab hb => h a b hab (by omega)⟩, by omega⟩
      · refine .inl fun i j hij hj => ?_
        rcases Nat.lt_or_ge j n with h3 | h3
        · exact h i j hij h3
        · obtain rfl : j = n := by omega
          exact fun e => he ⟨i, hij, e⟩
    · exact .inr ⟨m, r, h1, by omega⟩
theorem cyc_ex (f : Nat → Nat) (s n : Nat) (hb : ∀ k, orb f s k < n) : ∃ m r, Cyc f s m r ∧ m + r ≤ n := by
  rcases cyc_or f s (n + 1) with h | ⟨m, r, h1, h2⟩
  · have hd : ((List.range (n + 1)).map (orb f s)).Nodup := by
      rw [List.Nodup, List.pairwise_map]
      refine List.Pairwise.imp_of_mem (R := (· < ·)) ?_ List.pairwise_lt_range
      intro a b _ hb' hlt
      exact h a b hlt (by simpa using hb')
    have := pigeon n _ hd (fun x hx => by
      simp at hx
      obtain ⟨k, _, rfl⟩ := hx
      exact hb k)
    simp at this
    omega
  · exact ⟨m, r, h1, by omega⟩
theorem orb_add (f : Nat → Nat) (s i k : Nat) : orb f s (i + k) = orb f (orb f s i) k := by
  induction k with
  | zero => rfl
  | succ k ih => show f (orb f s (i + k)) = f _; rw [ih]
theorem Cyc.later {f : Nat → Nat} {s m r : Nat} (h : Cyc f s m r) (k : Nat) (hk : m ≤ k) : orb f s (k + r) = orb f s k := by
  rw [show k + r = (m + r) + (k - m) by omega, orb_add, h.same, ← orb_add, show m + (k - m) = k by omega]
theorem Cyc.laters {f : Nat → Nat} {s m r : Nat} (h : Cyc f s m r) (k q : Nat) (hk : m ≤ k) : orb f s (k + q * r) = orb f s k := by
  induction q with
  | zero => simp
  | succ q ih => rw [show k + (q + 1) * r = (k + q * r) + r by rw [Nat.succ_mul]; omega, h.later _ (by omega), ih]
/-- Two places hold the same just where both lie in the circle, a number of rounds apart. -/
theorem Cyc.eq_iff {f : Nat → Nat} {s m r : Nat} (h : Cyc f s m r) (i d : Nat) (hd : 0 < d) : orb f s i = orb f s (i + d) ↔ m ≤ i ∧ r ∣ d := by
  have hr := h.pos
  constructor
  · intro he
    have red : ∀ k, m ≤ k → orb f s k = orb f s (m + (k - m) % r) := by
      intro k hk
      have h1 := h.laters (m + (k - m) % r) ((k - m) / r) (by omega)
      have h2 : m + (k - m) % r + (k - m) / r * r = k := by
        have := Nat.div_add_mod (k - m) r
        rw [Nat.mul_comm] at this
        omega
      rw [h2] at h1
      exact h1
    have hlt : ∀ k, (k - m) % r < r := fun k => Nat.mod_lt _ (by omega)
    by_cases hi : m ≤ i
    · refine ⟨hi, ?_⟩
      rw [red i hi, red (i + d) (by omega)] at he
      have e1 := hlt i
      have e2 := hlt (i + d)
      have e3 : (i - m) % r = (i + d - m) % r := by
        rcases Nat.lt_trichotomy ((i - m) % r) ((i + d - m) % r) with h1 | h1 | h1
        · exact absurd he (h.apart _ _ (by omega) (by omega))
        · exact h1
        · exact absurd he.symm (h.apart _ _ (by omega) (by omega))
      rw [show i + d - m = (i - m) + d by omega] at e3
      have e4 := Nat.sub_mod_eq_zero_of_mod_eq e3.symm
      rw [show i - m + d - (i - m) = d by omega] at e4
      exact Nat.dvd_of_mod_eq_zero e4
    · exfalso
      by_cases hj : i + d < m + r
      · exact h.apart _ _ (by omega) hj he
      · rw [red (i + d) (by omega)] at he
        have e2 := hlt (i + d)
        exact h.apart _ _ (by omega) (by omega) he
  · rintro ⟨hi, q, rfl⟩
    rw [Nat.mul_comm, h.laters i q hi]
end Fx
end Go.Proofs.Ytgckcffgkgfakaa
