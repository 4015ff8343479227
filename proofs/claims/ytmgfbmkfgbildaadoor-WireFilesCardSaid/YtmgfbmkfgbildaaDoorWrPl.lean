/- The plain law of texts with their length ahead: to read a length, a text, all texts; what was put is got, and nothing else is. -/
import Derived.Lib.ItoaNum
namespace Go.Proofs.YtmgfbmkfgbildaaDoor
open Go.Lib
namespace Wr

abbrev Bs := List UInt8

/-- Reading a length: i signs are read, n is their number; the rest is still to be read. -/
def len : Bs → Nat → Nat → Except Nat (Nat × Bs)
  | [], _, _ => .error 6
  | c :: t, i, n =>
    if c.toNat = 58 ∧ 0 < i then .ok (n, t)
    else if c.toNat < 48 ∨ 57 < c.toNat ∨ (0 < i ∧ n = 0) then .error 5
    else if 999999 < n * 10 + (c.toNat - 48) then .error 3
    else len t (i + 1) (n * 10 + (c.toNat - 48))

/-- The text at the beginning, and what is behind it. -/
def get1 (t : Bs) (top : Nat) : Except Nat (Bs × Bs) :=
  match len t 0 0 with
  | .error e => .error e
  | .ok (n, r) => if top < n then .error 3 else if r.length < n + 1 then .error 6 else if r[n]? ≠ some 44 then .error 5 else .ok (r.take n, r.drop (n + 1))

def put (s : Bs) : Bs := decDigits s.length ++ 58 :: (s ++ [44])

theorem dig_snoc (n d : Nat) (hn : n ≠ 0) (hd : d < 10) : decDigits (n * 10 + d) = decDigits n ++ [UInt8.ofNat (48 + d)] := by
  rw [decDigits, dif_neg (by omega), show (n * 10 + d) / 10 = n by omega, show (n * 10 + d) % 10 = d by omega]
theorem byte_nat (c : UInt8) (n : Nat) (h : c.toNat = n) : c = UInt8.ofNat n := by subst h; simp
theorem dig_byte (d : Nat) (hd : d < 10) : (UInt8.ofNat (48 + d)).toNat = 48 + d := by simp; omega

theorem len_read : ∀ u : Nat, u ≤ 999999 → ∃ i, 0 < i ∧ ∀ t, len (decDigits u ++ t) 0 0 = len t i u := by
  intro u
  induction u using Nat.strongRecOn with
  | _ u ih =>
    intro hu
    by_cases h : u < 10
    · refine ⟨1, by omega, fun t => ?_⟩
      have hb := dig_byte u h
      rw [decDigits, dif_pos h]
      simp only [List.cons_append, List.nil_append, len]
      rw [if_neg (by omega), if_neg (by omega), if_neg (by omega), hb]
      congr 1
      omega
    · obtain ⟨i, hi, he⟩ := ih (u / 10) (by omega) (by omega)
      refine ⟨i + 1, by omega, fun t => ?_⟩
      have hb := dig_byte (u % 10) (by omega)
      rw [decDigits, dif_neg h, List.append_assoc, he]
      simp only [List.cons_append, List.nil_append, len]
      rw [if_neg (by omega), if_neg (by omega), if_neg (by omega), hb]
      congr 1
      omega

theorem get1_put (x r : Bs) (top : Nat) (h1 : x.length ≤ top) (h2 : x.length ≤ 999999) : get1 (put x ++ r) top = .ok (x, r) := by
  obtain ⟨i, hi, he⟩ := len_read x.length h2
  unfold get1 put
  rw [List.append_assoc, he]
  simp only [List.cons_append, len, List.append_assoc, List.nil_append]
  rw [if_pos (by exact ⟨rfl, hi⟩)]
  simp only
  rw [if_neg (by omega), if_neg (by simp), if_neg (by simp)]
  simp
theorem get1_most (x r : Bs) (top : Nat) (h1 : top < x.length) (h2 : x.length ≤ 999999) : get1 (put x ++ r) top = .error 3 := by
  obtain ⟨i, hi, he⟩ := len_read x.length h2
  unfold get1 put
  rw [List.append_assoc, he]
  simp only [List.cons_append, len, List.append_assoc, List.nil_append]
  rw [if_pos (by exact ⟨rfl, hi⟩)]
  simp only
  rw [if_pos h1]

theorem len_on : ∀ (t : Bs) (i n m : Nat) (r : Bs), 0 < i → n ≤ 999999 → len t i n = .ok (m, r) → decDigits n ++ t = decDigits m ++ 58 :: r ∧ m ≤ 999999 := by
  intro t
  induction t with
  | nil => intro i n m r _ _ h; simp [len] at h
  | cons c t ih =>
    intro i n m r hi hn h
    simp only [len] at h
    split at h
    · next hc =>
      injection h with h
      injection h with h1 h2
      subst h1 h2
      rw [byte_nat c 58 hc.1]
      exact ⟨rfl, hn⟩
    · split at h
      · cases h
      · split at h
        · cases h
        · obtain ⟨h1, h2⟩ := ih (i + 1) (n * 10 + (c.toNat - 48)) m r (by omega) (by omega) h
          refine ⟨?_, h2⟩
          rw [dig_snoc n _ (by omega) (by omega), show 48 + (c.toNat - 48) = c.toNat by omega] at h1
          simpa using h1
theorem len_inv (t : Bs) (m : Nat) (r : Bs) (h : len t 0 0 = .ok (m, r)) : t = decDigits m ++ 58 :: r ∧ m ≤ 999999 := by
  cases t with
  | nil => simp [len] at h
  | cons c t =>
    simp only [len] at h
    rw [if_neg (by omega)] at h
    split at h
    · cases h
    · split at h
      · cases h
      · obtain ⟨h1, h2⟩ := len_on t 1 _ m r (by omega) (by omega) h
        refine ⟨?_, h2⟩
        rw [decDigits, dif_pos (by omega), show 48 + (0 * 10 + (c.toNat - 48)) = c.toNat by omega] at h1
        simpa using h1
theorem get1_inv (t : Bs) (top : Nat) (x r : Bs) (h : get1 t top = .ok (x, r)) : t = put x ++ r ∧ x.length ≤ top ∧ x.length ≤ 999999 := by
  unfold get1 at h
  split at h
  · cases h
  · next n q hq =>
    obtain ⟨h1, h2⟩ := len_inv t n q hq
    split at h
    · cases h
    · split at h
      · cases h
      · split at h
        · cases h
        · next a b c =>
          injection h with h
          injection h with h3 h4
          have hn : n < q.length := by omega
          have hl : x.length = n := by rw [← h3]; simp; omega
          have hc : q[n] = 44 := by
            have := c
            rw [List.getElem?_eq_getElem hn] at this
            simpa using this
          refine ⟨?_, by omega, by omega⟩
          rw [h1, put, hl]
          have : q = x ++ 44 :: r := by
            rw [← h3, ← h4, ← hc, List.getElem_cons_drop, List.take_append_drop]
          rw [this]
          simp
theorem get1_short {t : Bs} {top : Nat} {x r : Bs} (h : get1 t top = .ok (x, r)) : r.length < t.length := by
  rw [(get1_inv t top x r h).1]
  simp [put]
  omega

theorem put_first (s t u : Bs) (hs : s.length ≤ 999999) (ht : t.length ≤ 999999) (h : put s ++ u = put t) : s = t := by
  have h1 := get1_put s u 999999 hs hs
  have h2 := get1_put t [] 999999 ht ht
  rw [h] at h1
  rw [List.append_nil, h1] at h2
  injection h2 with h2
  injection h2

theorem len_cut : ∀ u : Nat, u ≤ 999999 → ∀ k, len ((decDigits u).take k) 0 0 = .error 6 := by
  intro u
  induction u using Nat.strongRecOn with
  | _ u ih =>
    intro hu k
    by_cases hk : k < (decDigits u).length
    · by_cases h : u < 10
      · rw [decDigits, dif_pos h] at hk
        obtain rfl : k = 0 := by simpa using hk
        rw [List.take_zero]
        rfl
      · rw [decDigits, dif_neg h] at hk ⊢
        simp at hk
        rw [List.take_append_of_le_length (by omega)]
        exact ih (u / 10) (by omega) (by omega) k
    · rw [List.take_of_length_le (by omega)]
      obtain ⟨i, hi, he⟩ := len_read u hu
      have := he []
      rw [List.append_nil] at this
      rw [this]
      rfl
theorem get1_cut (s : Bs) (hs : s.length ≤ 999999) (k : Nat) (hk : k < (put s).length) : get1 ((put s).take k) 999999 = .error 6 := by
  have hp : (put s).length = (decDigits s.length).length + (s.length + 2) := by simp [put]
  unfold get1
  by_cases h : k ≤ (decDigits s.length).length
  · rw [put, List.take_append_of_le_length h, len_cut s.length hs k]
  · obtain ⟨i, hi, he⟩ := len_read s.length hs
    have e : (put s).take k = decDigits s.length ++ 58 :: ((s ++ [44]).take (k - (decDigits s.length).length - 1)) := by
      rw [put, List.take_append, List.take_of_length_le (by omega), show k - (decDigits s.length).length = (k - (decDigits s.length).length - 1) + 1 by omega, List.take_succ_cons]
      simp
    rw [e, he]
    simp only [len]
    rw [if_pos (by exact ⟨rfl, hi⟩)]
    simp only
    rw [if_neg (by omega), if_pos (by simp; omega)]

/-- All texts. -/
def all (t : Bs) : Except Nat (List Bs) :=
  if t = [] then .ok []
  else match h : get1 t 999999 with
    | .error e => .error e
    | .ok (x, r) => match all r with
      | .error e => .error e
      | .ok l => .ok (x :: l)
termination_by t.length
decreasing_by exact get1_short h
theorem all_nil : all [] = .ok [] := by rw [all, if_pos rfl]
theorem all_err (t : Bs) (e : Nat) (ht : t ≠ []) (h : get1 t 999999 = .error e) : all t = .error e := by
  rw [all, if_neg ht]
  split
  · next e' h' => rw [h] at h'; injection h' with h'; rw [h']
  · next x r h' => rw [h] at h'; cases h'
theorem all_ok (t x r : Bs) (h : get1 t 999999 = .ok (x, r)) : all t = match all r with | .error e => .error e | .ok l => .ok (x :: l) := by
  have ht : t ≠ [] := by
    rintro rfl
    simp [get1, len] at h
  rw [all, if_neg ht]
  split
  · next e' h' => rw [h] at h'; cases h'
  · next x' r' h' => rw [h] at h'; injection h' with h'; injection h' with h1 h2; subst h1 h2; rfl

def puts (l : List Bs) : Bs := (l.map put).flatten
theorem puts_snoc (l : List Bs) (x : Bs) : puts (l ++ [x]) = puts l ++ put x := by simp [puts]
theorem all_puts : ∀ l : List Bs, (∀ x ∈ l, x.length ≤ 999999) → all (puts l) = .ok l := by
  intro l
  induction l with
  | nil => intro _; exact all_nil
  | cons x l ih =>
    intro h
    have hx := h x (by simp)
    have h1 : get1 (put x ++ puts l) 999999 = .ok (x, puts l) := get1_put x (puts l) 999999 hx hx
    show all (puts (x :: l)) = _
    rw [show puts (x :: l) = put x ++ puts l by simp [puts], all_ok _ _ _ h1, ih (fun y hy => h y (by simp [hy]))]
theorem all_inv : ∀ (n : Nat) (t : Bs) (l : List Bs), t.length ≤ n → all t = .ok l → t = puts l ∧ ∀ x ∈ l, x.length ≤ 999999 := by
  intro n
  induction n with
  | zero =>
    intro t l h ha
    obtain rfl : t = [] := List.eq_nil_of_length_eq_zero (by omega)
    rw [all_nil] at ha
    injection ha with ha
    subst ha
    exact ⟨rfl, by simp⟩
  | succ n ih =>
    intro t l h ha
    by_cases ht : t = []
    · subst ht
      rw [all_nil] at ha
      injection ha with ha
      subst ha
      exact ⟨rfl, by simp⟩
    · match hg : get1 t 999999 with
      | .error e => rw [all_err t e ht hg] at ha; cases ha
      | .ok (x, r) =>
        rw [all_ok t x r hg] at ha
        obtain ⟨h1, h2, h3⟩ := get1_inv t _ x r hg
        have hs := get1_short hg
        match hr : all r with
        | .error e => rw [hr] at ha; cases ha
        | .ok m =>
          rw [hr] at ha
          injection ha with ha
          subst ha
          obtain ⟨h4, h5⟩ := ih r m (by omega) hr
          refine ⟨by rw [h1, h4]; simp [puts], ?_⟩
          intro y hy
          simp only [List.mem_cons] at hy
          rcases hy with rfl | hy
          · exact h3
          · exact h5 y hy
theorem put_len (x : Bs) : 3 ≤ (put x).length := by
  have := nDigits_pos x.length
  simp [put, decDigits_length]
  omega
end Wr
end Go.Proofs.YtmgfbmkfgbildaaDoor
