/- Parts between commas; what a name's parts are (plain); the walk of strings.Split at a comma. -/
import Derived.Test.YtmnekomoiffebaaDoorRows
import Derived.Test.YtmnekomoiffebaaDoorKit
import Derived.Test.YtmnekomoiffebaaDoorStr
import Derived.Test.YtmnekomoiffebaaDoorShelf
import Derived.Test.YtmnekomoiffebaaDoorNmW1
import Derived.Test.YtmnekomoiffebaaDoorNmW2
import Derived.Test.YtmnekomoiffebaaDoorNmW3
import Derived.Test.YtmnekomoiffebaaDoorNmW4
namespace Go.Proofs.YtmnekomoiffebaaDoor
open Go.RowKit Go.Lib Go.Sort Tx

namespace Tx
def cm (c : UInt8) : Bool := c == 44
theorem idx_none (s : Bs) (h : ∀ b ∈ s, cm b = false) : Lib.index s [44] = -1 := by
  induction s with
  | nil => rfl
  | cons b l ih =>
    have hb := h b (List.mem_cons_self ..)
    unfold Lib.index
    rw [ih (fun c hc => h c (List.mem_cons_of_mem _ hc))]
    have : List.isPrefixOf [44] (b :: l) = false := by
      simp only [cm, beq_eq_false_iff_ne] at hb
      simp [List.isPrefixOf]
      exact fun e => hb e.symm
    rw [this]
    rfl
theorem idx_app (a m : Bs) (h : ∀ b ∈ a, cm b = false) : Lib.index (a ++ 44 :: m) [44] = a.length := by
  induction a with
  | nil => simp [Lib.index, List.isPrefixOf]
  | cons b l ih =>
    have hb := h b (List.mem_cons_self ..)
    have ih := ih (fun c hc => h c (List.mem_cons_of_mem _ hc))
    rw [List.cons_append]
    unfold Lib.index
    rw [ih]
    have : List.isPrefixOf [44] (b :: (l ++ 44 :: m)) = false := by
      simp only [cm, beq_eq_false_iff_ne] at hb
      simp [List.isPrefixOf]
      exact fun e => hb e.symm
    rw [this]
    simp
theorem first_comma (s : Bs) : (∀ b ∈ s, cm b = false) ∨ ∃ a m, s = a ++ 44 :: m ∧ ∀ b ∈ a, cm b = false := by
  induction s with
  | nil => exact .inl (by simp)
  | cons b l ih =>
    cases hb : cm b with
    | true =>
      have : b = 44 := by simpa [cm] using hb
      exact .inr ⟨[], l, by rw [this]; rfl, by simp⟩
    | false =>
      rcases ih with h | ⟨a, m, rfl, h⟩
      · exact .inl fun c hc => by
          rcases List.mem_cons.1 hc with rfl | hc
          · exact hb
          · exact h c hc
      · exact .inr ⟨b :: a, m, rfl, fun c hc => by
          rcases List.mem_cons.1 hc with rfl | hc
          · exact hb
          · exact h c hc⟩
theorem split_comma : ∀ (n : Nat) (s : Bs), s.length ≤ n → Lib.split s [44] = pieces cm s := by
  intro n
  induction n with
  | zero =>
    intro s hs
    have : s = [] := List.eq_nil_of_length_eq_zero (by omega)
    subst this
    rfl
  | succ n ih =>
    intro s hs
    rcases first_comma s with h | ⟨a, m, rfl, h⟩
    · unfold Lib.split
      rw [Lib.count_miss (idx_none s h), pieces_none cm s h]
      rfl
    · have hi := idx_app a m h
      have hd : (a ++ 44 :: m).drop (a.length + 1) = m := by simp
      have hc : Lib.count (a ++ 44 :: m) [44] = 1 + Lib.count m [44] := by
        rw [Lib.count_hit (by simp) hi]
        simp
      unfold Lib.split
      rw [hc, Nat.add_comm 1, Lib.splitK, if_neg (by rw [hi]; simp), hi, pieces_hit cm a m 44 (by decide), pieces_none cm a h]
      rw [show ((a.length : Int)).toNat = a.length from Int.toNat_natCast _]
      simp only [Nat.add_zero, List.length_singleton, hd]
      rw [List.take_left']
      · have := ih m (by simp at hs; omega)
        unfold Lib.split at this
        rw [this]; rfl
      · rfl

structure P4 where
  first : Bs
  von : Bs
  last : Bs
  jr : Bs
def firstS (l : List Bs) : Nat := l.findIdx sm
def parse1 (l : List Bs) : P4 :=
  if l = [] then ⟨[], [], [], []⟩ else if lastS l = 0 then ⟨join (l.take (l.length - 1)), [], l[l.length - 1]?.getD [], []⟩
  else ⟨join (l.take (firstS l)), join ((l.drop (firstS l)).take (lastS l - firstS l)), join (l.drop (lastS l)), []⟩
def parse (s : Bs) : P4 :=
  match pieces cm s with
  | [] => ⟨[], [], [], []⟩
  | [a] => parse1 (words a)
  | [a, b] => ⟨join (words b), join ((words a).take (lastS (words a))), join ((words a).drop (lastS (words a))), []⟩
  | a :: b :: c :: _ => ⟨join (words c), join ((words a).take (lastS (words a))), join ((words a).drop (lastS (words a))), join (words b)⟩
theorem parse_one {s a : Bs} (h : pieces cm s = [a]) : parse s = parse1 (words a) := by unfold parse; rw [h]
theorem parse_two {s a b : Bs} (h : pieces cm s = [a, b]) : parse s = ⟨join (words b), join ((words a).take (lastS (words a))), join ((words a).drop (lastS (words a))), []⟩ := by unfold parse; rw [h]
theorem parse_more {s a b c : Bs} {r : List Bs} (h : pieces cm s = a :: b :: c :: r) : parse s = ⟨join (words c), join ((words a).take (lastS (words a))), join ((words a).drop (lastS (words a))), join (words b)⟩ := by unfold parse; rw [h]
theorem le_sum {l : List Nat} {a : Nat} (h : a ∈ l) : a ≤ l.sum := by
  induction l with
  | nil => simp at h
  | cons b l ih =>
    rcases List.mem_cons.1 h with rfl | h
    · simp
    · have := ih h; simp; omega
theorem sp_mem (p : UInt8 → Bool) (l w : Bs) (h : w ∈ pieces p l) : w.length ≤ l.length := by
  have h1 := sp_sum p l
  have h2 : w.length ≤ ((pieces p l).map List.length).sum := le_sum (List.mem_map.2 ⟨w, h, rfl⟩)
  simp [pieces] at h2
  omega
end Tx

/-- The library's greatest length is some number. -/
def MaxL (w : World) : Prop := ∃ m : Int, w.cell? ⟨0, 0, none⟩ = some (.int .i64 m)
theorem MaxL.below {w w' : World} (h : MaxL w) (hb : Below w.heap.size w w') : MaxL w' := by
  obtain ⟨m, hm⟩ := h
  exact ⟨m, (hb.cell (World.block_lt_of_cell? _ _ hm)).trans hm⟩
theorem MaxL.alloc {w : World} (h : MaxL w) (o : Obj) : MaxL (w.alloc o) := h.below ((Below.refl _ _).alloc (Nat.le_refl _) o)

theorem ssplit_any (s : ByteArray) (w : World) (hm : MaxL w) (hs : s.size < 1000000) :
    Calls Tryd.prog 35 #[.string s, .string ⟨#[44]⟩] w fun e w' => ∃ v, e = .returned v ∧ Row vs w' w'.heap.size v (pieces cm s.data.toList) ∧ Below w.heap.size w w' := by
  obtain ⟨m, hm⟩ := hm
  refine (Tryd.strings_Split s ⟨#[44]⟩ m w (by omega) hm (by decide)).mono ?_
  rintro e w' ⟨rfl, rfl⟩
  have hd : (Lib.splitB ⟨#[44]⟩ 0 (Lib.countB s ⟨#[44]⟩) s).map (·.data.toList) = pieces cm s.data.toList := by
    rw [Lib.splitB_data]
    exact split_comma _ _ (Nat.le_refl _)
  have hl : (Lib.splitB ⟨#[44]⟩ 0 (Lib.countB s ⟨#[44]⟩) s).length = Lib.countB s ⟨#[44]⟩ + 1 := Lib.splitB_all _ (by decide) _ _ _ rfl
  have hv : (Lib.splitB ⟨#[44]⟩ 0 (Lib.countB s ⟨#[44]⟩) s).map Value.string = (pieces cm s.data.toList).map vs := by
    rw [← hd, List.map_map]
    exact List.map_congr_left fun a _ => by simp [vs, bs_of]
  have hn : (pieces cm s.data.toList).length = Lib.countB s ⟨#[44]⟩ + 1 := by rw [← hd, List.length_map, hl]
  refine ⟨_, rfl, ?_, (Below.refl _ _).alloc (Nat.le_refl _) _⟩
  rw [hv, ← hn]
  have hp := pieces_length cm s.data.toList
  rw [size_list] at hp
  have := row_lit vs (pieces cm s.data.toList) w 9 (by simp only [maxLen]; omega)
  simpa using this
end Go.Proofs.YtmnekomoiffebaaDoor
