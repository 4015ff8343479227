/- Texts as lists of bytes: pieces between marks, words, joining. Plain Lean. -/
import Derived.Test.YtjmmfihmamcopaaGreatDoorKit
import Derived.Lib.Join
import Derived.ShutString
namespace Go.Proofs.YtjmmfihmamcopaaGreatDoor

namespace Tx
theorem snoc_ind {α : Type} {P : List α → Prop} (nil : P []) (snoc : ∀ l a, P l → P (l ++ [a])) (l : List α) : P l := by
  have h : ∀ m : List α, P m.reverse := fun m => by
    induction m with
    | nil => exact nil
    | cons a m ih => rw [List.reverse_cons]; exact snoc _ _ ih
  have := h l.reverse
  rwa [List.reverse_reverse] at this
abbrev Bs := List UInt8
def bs (l : Bs) : ByteArray := ⟨l.toArray⟩
abbrev vs (l : Bs) : Value := .string (bs l)
theorem bs_list (l : Bs) : (bs l).data.toList = l := by simp [bs]
theorem bs_of (s : ByteArray) : bs s.data.toList = s := by cases s; simp [bs]
theorem bs_size (l : Bs) : (bs l).size = l.length := by simp [bs, ByteArray.size]
theorem size_list (s : ByteArray) : s.data.toList.length = s.size := by rw [Array.length_toList]; rfl
theorem bs_inj {a b : Bs} (h : bs a = bs b) : a = b := by rw [← bs_list a, h, bs_list]
theorem bs_append (a b : Bs) : bs a ++ bs b = bs (a ++ b) := by
  apply ByteArray.ext
  simp [bs, ByteArray.data_append]
theorem bs_extract (s : ByteArray) (i j : Nat) : s.extract i j = bs ((s.data.toList.take j).drop i) := by
  apply ByteArray.ext
  simp only [bs, ByteArray.data_extract]
  apply Array.ext'
  simp [Array.toList_extract, List.extract_eq_take_drop]
  rw [List.drop_take]
theorem bs_extract' (l : Bs) (i j : Nat) : (bs l).extract i j = bs ((l.take j).drop i) := by rw [bs_extract, bs_list]
theorem bs_iff (a b : Bs) : bs a = bs b ↔ a = b := ⟨bs_inj, fun h => by rw [h]⟩

/-- What stands between bytes at which p strikes: what is whole, and what stands last. -/
def stp (p : UInt8 → Bool) (s : List Bs × Bs) (c : UInt8) : List Bs × Bs := if p c then (s.1 ++ [s.2], []) else (s.1, s.2 ++ [c])
def sp (p : UInt8 → Bool) (l : Bs) : List Bs × Bs := l.foldl (stp p) ([], [])
def pieces (p : UInt8 → Bool) (l : Bs) : List Bs := (sp p l).1 ++ [(sp p l).2]
theorem sp_nil (p : UInt8 → Bool) : sp p [] = ([], []) := rfl
theorem sp_snoc (p : UInt8 → Bool) (l : Bs) (c : UInt8) : sp p (l ++ [c]) = stp p (sp p l) c := by simp [sp, List.foldl_append]
theorem sp_hit (p : UInt8 → Bool) (l : Bs) (c : UInt8) (h : p c = true) : sp p (l ++ [c]) = ((sp p l).1 ++ [(sp p l).2], []) := by rw [sp_snoc, stp, if_pos h]
theorem sp_miss (p : UInt8 → Bool) (l : Bs) (c : UInt8) (h : p c = false) : sp p (l ++ [c]) = ((sp p l).1, (sp p l).2 ++ [c]) := by rw [sp_snoc, stp, if_neg (by simp [h])]
theorem sp_more (p : UInt8 → Bool) (m : Bs) : ∀ (l : Bs), (∀ c ∈ m, p c = false) → sp p (l ++ m) = ((sp p l).1, (sp p l).2 ++ m) := by
  induction m with
  | nil => intro l _; simp
  | cons c m ih =>
    intro l h
    rw [show l ++ c :: m = (l ++ [c]) ++ m by simp, ih _ (fun d hd => h d (List.mem_cons_of_mem _ hd)), sp_miss p l c (h c (List.mem_cons_self ..))]
    simp
theorem foldl_stp (p : UInt8 → Bool) (m : Bs) : ∀ (a : List Bs) (b : Bs), m.foldl (stp p) (a, b) = (a ++ (match sp p m with | ([], _x) => [] | (x :: y, _) => (b ++ x) :: y), match sp p m with | ([], x) => b ++ x | (_ :: _, x) => x) := by
  induction m using snoc_ind with
  | nil => intro a b; simp [sp]
  | snoc m c ih =>
    intro a b
    rw [List.foldl_append, ih, sp_snoc]
    simp only [List.foldl_cons, List.foldl_nil]
    rcases hs : sp p m with ⟨x, y⟩
    cases x with
    | nil =>
      simp only [stp]
      split <;> simp
    | cons x0 x =>
      simp only [stp]
      split <;> simp
/-- All pieces of two texts, one behind the other. -/
theorem sp_append (p : UInt8 → Bool) (l m : Bs) : sp p (l ++ m) = ((sp p l).1 ++ (match sp p m with | ([], _x) => [] | (x :: y, _) => ((sp p l).2 ++ x) :: y), match sp p m with | ([], x) => (sp p l).2 ++ x | (_ :: _, x) => x) := by
  unfold sp
  rw [List.foldl_append]
  exact foldl_stp p m _ _
theorem pieces_hit (p : UInt8 → Bool) (l m : Bs) (c : UInt8) (h : p c = true) : pieces p (l ++ c :: m) = pieces p l ++ pieces p m := by
  have e : sp p (c :: m) = ([] :: (sp p m).1, (sp p m).2) := by
    show m.foldl (stp p) (stp p ([], []) c) = _
    rw [stp, if_pos h, foldl_stp]
    rcases sp p m with ⟨x, y⟩
    cases x <;> simp
  unfold pieces
  rw [sp_append, e]
  simp
theorem pieces_none (p : UInt8 → Bool) (l : Bs) (h : ∀ c ∈ l, p c = false) : pieces p l = [l] := by
  have := sp_more p l [] h
  simp only [List.nil_append, sp_nil] at this
  simp [pieces, this]
theorem sp_clean (p : UInt8 → Bool) (l : Bs) : (∀ w ∈ (sp p l).1, ∀ c ∈ w, p c = false) ∧ ∀ c ∈ (sp p l).2, p c = false := by
  induction l using snoc_ind with
  | nil => simp [sp]
  | snoc l c ih =>
    cases h : p c with
    | true =>
      rw [sp_hit p l c h]
      refine ⟨fun w hw => ?_, by simp⟩
      rcases List.mem_append.1 hw with hw | hw
      · exact ih.1 w hw
      · simp at hw; subst hw; exact ih.2
    | false =>
      rw [sp_miss p l c h]
      refine ⟨ih.1, fun d hd => ?_⟩
      rcases List.mem_append.1 hd with hd | hd
      · exact ih.2 d hd
      · simp at hd; subst hd; exact h
theorem pieces_clean (p : UInt8 → Bool) (l : Bs) : ∀ w ∈ pieces p l, ∀ c ∈ w, p c = false := by
  intro w hw
  rcases List.mem_append.1 hw with hw | hw
  · exact (sp_clean p l).1 w hw
  · simp at hw; subst hw; exact (sp_clean p l).2
theorem sp_length (p : UInt8 → Bool) (l : Bs) : (sp p l).1.length ≤ l.length := by
  induction l using snoc_ind with
  | nil => simp [sp]
  | snoc l c ih =>
    cases h : p c with
    | true => rw [sp_hit p l c h]; simp; exact ih
    | false => rw [sp_miss p l c h]; simp; omega
theorem pieces_length (p : UInt8 → Bool) (l : Bs) : (pieces p l).length ≤ l.length + 1 := by
  have := sp_length p l
  simp [pieces]; omega
theorem sp_sum (p : UInt8 → Bool) (l : Bs) : ((sp p l).1.map List.length).sum + (sp p l).2.length ≤ l.length := by
  induction l using snoc_ind with
  | nil => simp [sp]
  | snoc l c ih =>
    cases h : p c with
    | true => rw [sp_hit p l c h]; simp; omega
    | false => rw [sp_miss p l c h]; simp; omega

def ne (l : List Bs) : List Bs := l.filter fun w => !w.isEmpty
theorem ne_append (a b : List Bs) : ne (a ++ b) = ne a ++ ne b := by simp [ne]
theorem ne_one (w : Bs) : ne [w] = if w = [] then [] else [w] := by cases w <;> simp [ne]
theorem ne_sum (l : List Bs) : ((ne l).map List.length).sum = (l.map List.length).sum := by
  induction l with
  | nil => rfl
  | cons a l ih => cases a <;> simp [ne] at ih ⊢ <;> omega
theorem ne_length (l : List Bs) : (ne l).length ≤ l.length := List.length_filter_le _ _
/-- A blank. -/
def bl (c : UInt8) : Bool := c == 32 || c == 9 || c == 10
def words (l : Bs) : List Bs := ne (pieces bl l)
theorem words_clean (l : Bs) : ∀ w ∈ words l, w ≠ [] ∧ ∀ c ∈ w, bl c = false := by
  intro w hw
  obtain ⟨h1, h2⟩ := List.mem_filter.1 hw
  exact ⟨by cases w <;> simp at h2 ⊢, pieces_clean bl l w h1⟩
theorem words_length (l : Bs) : (words l).length ≤ l.length + 1 := Nat.le_trans (ne_length _) (pieces_length _ _)
theorem words_sum (l : Bs) : ((words l).map List.length).sum ≤ l.length := by
  unfold words
  rw [ne_sum]
  have := sp_sum bl l
  simpa [pieces] using this
theorem words_hit (l m : Bs) (c : UInt8) (h : bl c = true) : words (l ++ c :: m) = words l ++ words m := by
  unfold words
  rw [pieces_hit bl l m c h, ne_append]
theorem words_one (w : Bs) (h : w ≠ []) (hc : ∀ c ∈ w, bl c = false) : words w = [w] := by
  unfold words
  rw [pieces_none bl w hc, ne_one, if_neg h]
theorem words_nil : words [] = [] := rfl

def join (l : List Bs) : Bs := Lib.join l [32]
theorem join_nil : join [] = [] := rfl
theorem join_one (w : Bs) : join [w] = w := Lib.join_one w [32]
theorem join_cons (w x : Bs) (l : List Bs) : join (w :: x :: l) = w ++ 32 :: join (x :: l) := by
  unfold join
  rw [Lib.join_cons, Lib.join_cons]
  simp [Lib.joinTail]
theorem join_snoc (l : List Bs) (w : Bs) (h : l ≠ []) : join (l ++ [w]) = join l ++ 32 :: w := by
  induction l with
  | nil => exact absurd rfl h
  | cons a l ih =>
    cases l with
    | nil => rw [List.singleton_append, join_cons, join_one, join_one]
    | cons b l => rw [List.cons_append, List.cons_append, join_cons, ← List.cons_append, ih (by simp), join_cons]; simp
/-- Words joined are words again. -/
theorem words_join (l : List Bs) (h : ∀ w ∈ l, w ≠ [] ∧ ∀ c ∈ w, bl c = false) : words (join l) = l := by
  induction l with
  | nil => rfl
  | cons a l ih =>
    have h1 := h a (List.mem_cons_self ..)
    cases l with
    | nil => rw [join_one, words_one a h1.1 h1.2]
    | cons b l =>
      rw [join_cons, words_hit _ _ _ (by decide), words_one a h1.1 h1.2, ih (fun w hw => h w (List.mem_cons_of_mem _ hw))]
      rfl
theorem join_length (l : List Bs) : (join l).length ≤ (l.map List.length).sum + l.length := by
  induction l with
  | nil => simp [join_nil]
  | cons a l ih =>
    cases l with
    | nil => rw [join_one]; simp
    | cons b l => rw [join_cons]; simp at ih ⊢; omega
end Tx
end Go.Proofs.YtjmmfihmamcopaaGreatDoor
