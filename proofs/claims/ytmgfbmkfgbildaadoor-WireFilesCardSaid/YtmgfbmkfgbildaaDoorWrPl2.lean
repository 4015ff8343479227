/- The plain law of maps as bytes: what a map is; to parse one; a map's bytes are parsed as it was; a map that is put together is one. -/
import Derived.Test.YtmgfbmkfgbildaaDoorWrPl
import GoSem.Op.String
namespace Go.Proofs.YtmgfbmkfgbildaaDoor
open Go.Lib
namespace Wr

abbrev less (a b : Bs) : Bool := Op.bytesLess a b
theorem less_nil (a : Bs) : less a [] = false := by cases a <;> rfl
theorem less_cons (a b : UInt8) (x y : Bs) : less (a :: x) (b :: y) = (decide (a < b) || (a == b && less x y)) := rfl
theorem less_self (a : Bs) : less a a = false := by
  induction a with
  | nil => rfl
  | cons c a ih => rw [less_cons, ih]; simp
theorem less_trans : ∀ a b c : Bs, less a b = true → less b c = true → less a c = true := by
  intro a
  induction a with
  | nil =>
    intro b c h1 h2
    cases c with
    | nil => rw [less_nil] at h2; exact h2
    | cons c z => rfl
  | cons a x ih =>
    intro b c h1 h2
    cases b with
    | nil => rw [less_nil] at h1; cases h1
    | cons b y =>
      cases c with
      | nil => rw [less_nil] at h2; cases h2
      | cons c z =>
        rw [less_cons] at h1 h2 ⊢
        simp only [Bool.or_eq_true, decide_eq_true_eq, Bool.and_eq_true, beq_iff_eq] at h1 h2 ⊢
        rcases h1 with h1 | ⟨rfl, h1⟩
        · rcases h2 with h2 | ⟨rfl, h2⟩
          · left
            rw [UInt8.lt_iff_toNat_lt] at h1 h2 ⊢
            omega
          · left; exact h1
        · rcases h2 with h2 | ⟨rfl, h2⟩
          · left; exact h2
          · right; exact ⟨rfl, ih y z h1 h2⟩
theorem less_all : ∀ a b : Bs, less a b = false → less b a = false → a = b := by
  intro a
  induction a with
  | nil =>
    intro b h1 h2
    cases b with
    | nil => rfl
    | cons b y => cases h1
  | cons a x ih =>
    intro b h1 h2
    cases b with
    | nil => cases h2
    | cons b y =>
      rw [less_cons] at h1 h2
      simp only [Bool.or_eq_false_iff, decide_eq_false_iff_not, Bool.and_eq_false_iff, beq_eq_false_iff_ne] at h1 h2
      have hab : a = b := by
        apply UInt8.toNat_inj.mp
        have h3 := h1.1
        have h4 := h2.1
        rw [UInt8.lt_iff_toNat_lt] at h3 h4
        omega
      subst hab
      rw [ih y (by rcases h1.2 with h | h; · exact absurd rfl h
                   · exact h) (by rcases h2.2 with h | h; · exact absurd rfl h
                                  · exact h)]

def sign (c : UInt8) : Bool := decide (97 ≤ c.toNat ∧ c.toNat ≤ 122) || decide (48 ≤ c.toNat ∧ c.toNat ≤ 57) || decide (c.toNat = 45) || decide (c.toNat = 46)
def nameOk (s : Bs) : Bool := s.all sign && decide (1 ≤ s.length ∧ s.length ≤ 24)
abbrev F := Bs × Bs
def fileOk (f : F) : Bool := nameOk f.1 && decide (f.2.length ≤ 4000)
def befOk (l : List F) (i : Nat) (n : Bs) : Bool := match i with
  | 0 => true
  | k + 1 => match l[k]? with
    | none => true
    | some g => less g.1 n
def stepOk (l : List F) (i : Nat) : Bool := match l[i]? with
  | none => true
  | some f => fileOk f && befOk l i f.1
def right (l : List F) : Bool := (List.range l.length).all (stepOk l) && decide (l.length ≤ 32)
structure Right (l : List F) : Prop where
  ok : ∀ f ∈ l, fileOk f = true
  up : l.Pairwise (fun f g => less f.1 g.1 = true)
  most : l.length ≤ 32
theorem right_no (l : List F) (k : Nat) (h : k < l.length) (hs : stepOk l k = false) : right l = false := by
  unfold right
  rw [Bool.and_eq_false_iff]
  left
  rw [List.all_eq_false]
  exact ⟨k, List.mem_range.mpr h, by rw [hs]; simp⟩
theorem right_end (l : List F) (h : ∀ j < l.length, stepOk l j = true) : right l = decide (l.length ≤ 32) := by
  unfold right
  rw [show (List.range l.length).all (stepOk l) = true from List.all_eq_true.mpr fun j hj => h j (List.mem_range.mp hj)]
  rfl
theorem stepOk_at (l : List F) (k : Nat) (h : k < l.length) : stepOk l k = (fileOk l[k] && befOk l k l[k].1) := by
  unfold stepOk
  rw [List.getElem?_eq_getElem h]
theorem befOk_at (l : List F) (k : Nat) (h : k < l.length) (n : Bs) : befOk l (k + 1) n = less l[k].1 n := by
  unfold befOk
  simp only [List.getElem?_eq_getElem h]
theorem adj_pair : ∀ l : List F, (∀ i, ∀ h : i + 1 < l.length, less l[i].1 l[i + 1].1 = true) → l.Pairwise (fun f g => less f.1 g.1 = true) := by
  intro l
  induction l with
  | nil => intro _; exact List.Pairwise.nil
  | cons a l ih =>
    intro h
    have hp := ih (fun i hi => h (i + 1) (by simp; omega))
    refine List.Pairwise.cons ?_ hp
    cases l with
    | nil => intro b hb; cases hb
    | cons c l =>
      have hac := h 0 (by simp)
      intro b hb
      simp only [List.mem_cons] at hb
      rcases hb with rfl | hb
      · exact hac
      · exact less_trans _ _ _ hac (List.rel_of_pairwise_cons hp hb)
theorem right_of {l : List F} (h : right l = true) : Right l := by
  unfold right at h
  rw [Bool.and_eq_true, List.all_eq_true, decide_eq_true_eq] at h
  have hs : ∀ j, ∀ hj : j < l.length, stepOk l j = true := fun j hj => h.1 j (List.mem_range.mpr hj)
  refine ⟨?_, adj_pair l ?_, h.2⟩
  · intro f hf
    obtain ⟨i, hi, rfl⟩ := List.mem_iff_getElem.mp hf
    have := hs i hi
    rw [stepOk_at l i hi, Bool.and_eq_true] at this
    exact this.1
  · intro i hi
    have := hs (i + 1) hi
    rw [stepOk_at l (i + 1) hi, Bool.and_eq_true] at this
    have h2 := this.2
    rw [befOk_at l i (by omega)] at h2
    exact h2
theorem Right.right {l : List F} (h : Right l) : Wr.right l = true := by
  rw [right_end l, decide_eq_true_eq]
  · exact h.most
  · intro j hj
    rw [stepOk_at l j hj, Bool.and_eq_true]
    refine ⟨h.ok _ (List.getElem_mem hj), ?_⟩
    cases j with
    | zero => rfl
    | succ k =>
      rw [befOk_at l k (by omega)]
      exact List.pairwise_iff_getElem.mp h.up k (k + 1) (by omega) hj (by omega)

def files (l : List F) : Bs := (l.map fun f => put f.1 ++ put f.2).flatten
def flat : List F → List Bs
  | [] => []
  | f :: l => f.1 :: f.2 :: flat l
def pairs : List Bs → List F
  | x :: y :: r => (x, y) :: pairs r
  | _ => []
theorem files_snoc (l : List F) (f : F) : files (l ++ [f]) = files l ++ (put f.1 ++ put f.2) := by simp [files]
theorem files_flat (l : List F) : files l = puts (flat l) := by
  induction l with
  | nil => rfl
  | cons f l ih =>
    have e1 : files (f :: l) = (put f.1 ++ put f.2) ++ files l := by simp [files]
    have e2 : puts (flat (f :: l)) = put f.1 ++ (put f.2 ++ puts (flat l)) := by simp [puts, flat]
    rw [e1, e2, ih, List.append_assoc]
theorem pairs_flat (l : List F) : pairs (flat l) = l := by
  induction l with
  | nil => rfl
  | cons f l ih => show (f.1, f.2) :: pairs (flat l) = _; rw [ih]
theorem flat_length (l : List F) : (flat l).length = 2 * l.length := by
  induction l with
  | nil => rfl
  | cons f l ih => simp [flat, ih]; omega
theorem flat_pairs : ∀ (n : Nat) (l : List Bs), l.length = 2 * n → flat (pairs l) = l ∧ (pairs l).length = n := by
  intro n
  induction n with
  | zero =>
    intro l h
    obtain rfl : l = [] := List.eq_nil_of_length_eq_zero (by omega)
    exact ⟨rfl, rfl⟩
  | succ n ih =>
    intro l h
    match l, h with
    | x :: y :: r, h =>
      obtain ⟨h1, h2⟩ := ih r (by simp at h; omega)
      exact ⟨by show x :: y :: flat (pairs r) = _; rw [h1], by show (pairs r).length + 1 = _; rw [h2]⟩
    | [x], h => simp at h; omega
    | [], h => simp at h
theorem flat_mem (l : List F) (x : Bs) (h : x ∈ flat l) : ∃ f ∈ l, x = f.1 ∨ x = f.2 := by
  induction l with
  | nil => cases h
  | cons f l ih =>
    simp only [flat, List.mem_cons] at h
    rcases h with rfl | rfl | h
    · exact ⟨f, by simp, .inl rfl⟩
    · exact ⟨f, by simp, .inr rfl⟩
    · obtain ⟨g, hg, h⟩ := ih h
      exact ⟨g, by simp [hg], h⟩
def parse (s : Bs) : Except Nat (List F) := match all s with
  | .error e => .error e
  | .ok l => if l.length % 2 = 1 then .error 5 else if right (pairs l) = true then .ok (pairs l) else .error 5
theorem nameOk_len {s : Bs} (h : nameOk s = true) : s.length ≤ 24 := by
  unfold nameOk at h
  rw [Bool.and_eq_true, decide_eq_true_eq] at h
  exact h.2.2
theorem fileOk_len {f : F} (h : fileOk f = true) : f.1.length ≤ 24 ∧ f.2.length ≤ 4000 := by
  unfold fileOk at h
  rw [Bool.and_eq_true, decide_eq_true_eq] at h
  exact ⟨nameOk_len h.1, h.2⟩
theorem parse_files (m : List F) (h : right m = true) : parse (files m) = .ok m := by
  have hr := right_of h
  unfold parse
  rw [files_flat, all_puts]
  · simp only
    rw [if_neg (by rw [flat_length]; omega), pairs_flat, if_pos h]
  · intro x hx
    obtain ⟨f, hf, hx⟩ := flat_mem m x hx
    have := fileOk_len (hr.ok f hf)
    rcases hx with rfl | rfl <;> omega
theorem files_parse (s : Bs) (m : List F) (h : parse s = .ok m) : files m = s ∧ right m = true := by
  unfold parse at h
  split at h
  · cases h
  · next l hl =>
    split at h
    · cases h
    · split at h
      · next h1 h2 =>
        injection h with h
        subst h
        obtain ⟨h3, _⟩ := all_inv s.length s l (Nat.le_refl _) hl
        refine ⟨?_, h2⟩
        rw [files_flat, (flat_pairs (l.length / 2) l (by omega)).1, ← h3]
      · cases h

def dropF (l : List F) (n : Bs) : List F := l.filter fun f => !(f.1 == n)
def ins (l : List F) (f : F) : List F := l.takeWhile (fun g => less g.1 f.1) ++ f :: l.dropWhile (fun g => less g.1 f.1)
def putF (l : List F) (f : F) : Except Nat (List F) :=
  if nameOk f.1 = false then .error 2
  else if 4000 < f.2.length ∨ (¬ (dropF l f.1).length < l.length ∧ 32 ≤ l.length) then .error 3
  else .ok (ins (dropF l f.1) f)
def mapS (b : Nat) (l : List F) (f : F) : List F := match putF l (f.1, f.2.take b) with
  | .error _ => l
  | .ok m => m
def mapF (l : List F) (n b : Nat) : List F := (l.take n).foldl (mapS b) []
theorem takeWhile_all {α : Type} (p : α → Bool) (l : List α) : ∀ a ∈ l.takeWhile p, p a = true := by
  induction l with
  | nil => intro a h; cases h
  | cons b l ih =>
    intro a h
    rw [List.takeWhile_cons] at h
    split at h
    · next hb =>
      simp only [List.mem_cons] at h
      rcases h with rfl | h
      · exact hb
      · exact ih a h
    · cases h
theorem dropWhile_first {α : Type} (p : α → Bool) (l : List α) (b : α) (r : List α) (h : l.dropWhile p = b :: r) : p b = false := by
  induction l with
  | nil => cases h
  | cons c l ih =>
    rw [List.dropWhile_cons] at h
    split at h
    · exact ih h
    · next hc =>
      injection h with h1 h2
      subst h1
      simpa using hc
theorem ins_right (l : List F) (f : F) (h : Right l) (hf : fileOk f = true) (hd : ∀ g ∈ l, g.1 ≠ f.1) (hl : l.length < 32) : Right (ins l f) := by
  have e := List.takeWhile_append_dropWhile (p := fun g : F => less g.1 f.1) (l := l)
  have hup := h.up
  have hlen : (ins l f).length = l.length + 1 := by
    have := congrArg List.length e
    simp only [List.length_append] at this
    simp only [ins, List.length_append, List.length_cons]
    omega
  rw [← e, List.pairwise_append] at hup
  refine ⟨?_, ?_, by omega⟩
  · intro g hg
    simp only [ins, List.mem_append, List.mem_cons] at hg
    rcases hg with hg | rfl | hg
    · exact h.ok g (by rw [← e]; exact List.mem_append_left _ hg)
    · exact hf
    · exact h.ok g (by rw [← e]; exact List.mem_append_right _ hg)
  · unfold ins
    rw [List.pairwise_append]
    have hb : ∀ g ∈ l.dropWhile (fun g : F => less g.1 f.1), less f.1 g.1 = true := by
      intro g hg
      match hq : l.dropWhile (fun g : F => less g.1 f.1) with
      | [] => rw [hq] at hg; cases hg
      | b :: r =>
        have hb := dropWhile_first _ l b r hq
        have hbm : b ∈ l := by rw [← e]; exact List.mem_append_right _ (by rw [hq]; simp)
        have hfb : less f.1 b.1 = true := by
          cases hc : less f.1 b.1 with
          | true => rfl
          | false => exact absurd (less_all _ _ hb hc) (hd b hbm)
        rw [hq] at hg
        simp only [List.mem_cons] at hg
        rcases hg with rfl | hg
        · exact hfb
        · have hp := hup.2.1
          rw [hq] at hp
          exact less_trans _ _ _ hfb (List.rel_of_pairwise_cons hp hg)
    refine ⟨hup.1, List.Pairwise.cons hb hup.2.1, ?_⟩
    intro a ha b hb2
    have h1 := takeWhile_all _ l a ha
    simp only [List.mem_cons] at hb2
    rcases hb2 with rfl | hb2
    · exact h1
    · exact less_trans _ _ _ h1 (hb b hb2)
theorem drop_right (l : List F) (n : Bs) (h : Right l) : Right (dropF l n) := by
  refine ⟨fun f hf => h.ok f (List.mem_filter.mp hf).1, h.up.filter _, Nat.le_trans (List.length_filter_le _ _) h.most⟩
theorem putF_right (l m : List F) (f : F) (h : Right l) (hp : putF l f = .ok m) : Right m := by
  unfold putF at hp
  split at hp
  · cases hp
  · next h1 =>
    split at hp
    · cases hp
    · next h2 =>
      injection hp with hp
      subst hp
      have hle : (dropF l f.1).length ≤ l.length := List.length_filter_le _ _
      have hm := h.most
      refine ins_right _ f (drop_right l f.1 h) ?_ ?_ (by omega)
      · unfold fileOk
        rw [Bool.and_eq_true, decide_eq_true_eq]
        exact ⟨by simpa using h1, by omega⟩
      · intro g hg
        have := (List.mem_filter.mp hg).2
        simpa using this
theorem mapF_right (l : List F) (n b : Nat) : Right (mapF l n b) := by
  have : ∀ (x m : List F), Right m → Right (x.foldl (mapS b) m) := by
    intro x
    induction x with
    | nil => intro m h; exact h
    | cons f x ih =>
      intro m h
      rw [List.foldl_cons]
      refine ih _ ?_
      unfold mapS
      split
      · exact h
      · next q hq => exact putF_right _ _ _ h hq
  exact this _ _ ⟨by simp, List.Pairwise.nil, by simp⟩
end Wr
end Go.Proofs.YtmgfbmkfgbildaaDoor
