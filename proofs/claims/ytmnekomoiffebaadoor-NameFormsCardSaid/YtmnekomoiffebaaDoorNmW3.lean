/- The walks of name.join, Split, small, last, vonLast. -/
import Derived.Test.YtmnekomoiffebaaDoorRows
import Derived.Test.YtmnekomoiffebaaDoorKit
import Derived.Test.YtmnekomoiffebaaDoorStr
import Derived.Test.YtmnekomoiffebaaDoorShelf
import Derived.Test.YtmnekomoiffebaaDoorNmW1
import Derived.Test.YtmnekomoiffebaaDoorNmW2
namespace Go.Proofs.YtmnekomoiffebaaDoor
open Go.RowKit Go.Lib Go.Sort Tx

namespace Tx
/-- The word 'and'; the names in a list of words. -/
def andW : Bs := [97, 110, 100]
def stA (s : List Bs × List Bs) (w : Bs) : List Bs × List Bs := if w = andW then (if s.2 = [] then s.1 else s.1 ++ [join s.2], []) else (s.1, s.2 ++ [w])
def finA (s : List Bs × List Bs) : List Bs := if s.2 = [] then s.1 else s.1 ++ [join s.2]
def splitN (l : List Bs) : List Bs := finA (l.foldl stA ([], []))
theorem stA_plain (l : List Bs) : ∀ s : List Bs × List Bs, (∀ w ∈ l, w ≠ andW) → l.foldl stA s = (s.1, s.2 ++ l) := by
  induction l with
  | nil => intro s _; simp
  | cons a l ih =>
    intro s h
    rw [List.foldl_cons, stA, if_neg (h a (List.mem_cons_self ..)), ih _ (fun w hw => h w (List.mem_cons_of_mem _ hw))]
    simp
/-- No 'and' in it: one name, of all words. -/
theorem finA_none (out l : List Bs) (h : ∀ w ∈ l, w ≠ andW) : finA (l.foldl stA (out, [])) = if l = [] then out else out ++ [join l] := by
  rw [stA_plain l _ h]
  simp [finA]
/-- The first 'and' stands at k. -/
theorem finA_some (out l : List Bs) (k : Nat) (hk : k < l.length) (he : l[k] = andW) (h : ∀ j (hj : j < k), l[j] ≠ andW) :
    finA (l.foldl stA (out, [])) = finA ((l.drop (k + 1)).foldl stA (if k = 0 then out else out ++ [join (l.take k)], [])) := by
  have e : l = l.take k ++ andW :: l.drop (k + 1) := by rw [← he, List.getElem_cons_drop, List.take_append_drop]
  conv => lhs; rw [e]
  rw [List.foldl_append, stA_plain (l.take k) _ (fun w hw => by
    obtain ⟨j, hj, rfl⟩ := List.getElem_of_mem hw
    simp at hj
    simp
    exact h j (by omega)), List.foldl_cons, stA, if_pos rfl]
  have hk0 : (l.take k = []) ↔ k = 0 := by
    rw [List.take_eq_nil_iff]
    constructor
    · rintro (h | rfl)
      · exact h
      · simp at hk
    · exact .inl
  by_cases h0 : k = 0
  · subst h0; simp
  · simp [h0]; rw [if_neg]; rintro rfl; simp at hk
theorem first_and (l : List Bs) : (∀ w ∈ l, w ≠ andW) ∨ ∃ k, ∃ h : k < l.length, l[k] = andW ∧ ∀ j (hj : j < k), l[j] ≠ andW := by
  induction l with
  | nil => exact .inl (by simp)
  | cons a l ih =>
    by_cases ha : a = andW
    · exact .inr ⟨0, by simp, ha, fun j hj => absurd hj (Nat.not_lt_zero _)⟩
    · rcases ih with h | ⟨k, hk, he, hn⟩
      · exact .inl fun w hw => by
          rcases List.mem_cons.1 hw with rfl | hw
          · exact ha
          · exact h w hw
      · refine .inr ⟨k + 1, by simpa using hk, by simpa using he, fun j hj => ?_⟩
        cases j with
        | zero => simpa using ha
        | succ j => simpa using hn j (by omega)
/-- Does a word begin with a to z? -/
def sm (w : Bs) : Bool := match w with | [] => false | c :: _ => decide (97 ≤ c.toNat) && decide (c.toNat ≤ 122)
def lastUp (l : List Bs) : Nat → Nat
  | 0 => 0
  | n + 1 => if sm (l[n]?.getD []) then n + 1 else lastUp l n
def lastS (l : List Bs) : Nat := lastUp l (l.length - 1)
theorem lastUp_le (l : List Bs) (n : Nat) : lastUp l n ≤ n := by
  induction n with
  | zero => exact Nat.le_refl _
  | succ n ih => unfold lastUp; split <;> omega
theorem lastS_lt (l : List Bs) (h : l ≠ []) : lastS l < l.length := by
  have := lastUp_le l (l.length - 1)
  have := List.length_pos_iff.2 h
  unfold lastS; omega
theorem lastS_le (l : List Bs) : lastS l ≤ l.length := by
  have := lastUp_le l (l.length - 1)
  unfold lastS; omega
end Tx

theorem Row.cells {w : World} {B : Nat} {v : Value} {l : List Bs} (h : Row vs w B v l) (hne : l ≠ []) : ∃ b off cap, v = .slice (some ⟨b, off, none⟩) l.length cap ∧ b < B ∧ l.length ≤ cap ∧ cap ≤ maxLen ∧ ∀ j (h : j < l.length), w.cell? ⟨b, off + j, none⟩ = some (vs l[j]) := by
  obtain ⟨cap, h1, h2, h3⟩ := h
  rcases h3 with ⟨rfl, _⟩ | ⟨b, off, hv, hb, hc⟩
  · exact absurd rfl hne
  · exact ⟨b, off, cap, hv, hb, h1, h2, hc⟩
theorem map_bs_data (xs : List Bs) : (xs.map bs).map (·.data.toList) = xs := by
  rw [List.map_map]
  conv => rhs; rw [← List.map_id xs]
  exact List.map_congr_left fun a _ => bs_list a

theorem sjoin_any (v : Value) (xs : List Bs) (w : World) (h : Row vs w w.heap.size v xs) (hb : (Tx.join xs).length < 1000000) (hn : xs.length < 1000000) :
    Calls Tryd.prog 44 #[v, .string ⟨#[32]⟩] w fun e w' => e = .returned (vs (Tx.join xs)) ∧ Below w.heap.size w w' := by
  by_cases hne : xs = []
  · subst hne
    obtain ⟨A, cap, rfl, _⟩ := h.shape
    exact (Tryd.strings_Join_none A cap ⟨#[32]⟩ w).mono fun e w' ⟨he, hw⟩ => ⟨he, hw ▸ Below.refl _ _⟩
  · obtain ⟨b, off, cap, rfl, q1, q2, q3, q4⟩ := h.cells hne
    have hj : Lib.join ((xs.map bs).map (·.data.toList)) (⟨#[32]⟩ : ByteArray).data.toList = Tx.join xs := by rw [map_bs_data]; rfl
    have := Tryd.strings_Join b off cap (xs.map bs) ⟨#[32]⟩ w (fun j x hx => by
      simp only [List.getElem?_map, Option.map_eq_some_iff] at hx
      obtain ⟨y, hy, rfl⟩ := hx
      obtain ⟨hj, rfl⟩ := List.getElem?_eq_some_iff.1 hy
      exact q4 j hj) q1 (by rw [List.length_map]; omega) (by rw [List.length_map]; exact q2) (by rw [hj]; omega)
    rw [hj, List.length_map] at this
    exact this

set_option maxHeartbeats 400000 in
theorem join_any (v : Value) (xs : List Bs) (w : World) (h : Row vs w w.heap.size v xs) (hb : (Tx.join xs).length < 1000000) (hn : xs.length < 1000000) :
    Calls Tryd.prog 34 #[v] w fun e w' => e = .returned (vs (Tx.join xs)) ∧ Below w.heap.size w w' := by
  go_enter Tryd.func34, Tryd.ntmps34
  go_wp2_with fail
  refine (sjoin_any v xs w h hb hn).mono ?_
  rintro e w1 ⟨rfl, hb1⟩
  go_wp2_with fail
  go_ret
  exact ⟨rfl, hb1⟩

theorem index_miss (v : Value) (l : List Bs) (w : World) (h : Row vs w w.heap.size v l) (hn : l.length < 1000000) (hm : ∀ x ∈ l, x ≠ andW) :
    Calls Tryd.prog 33 #[v, .string ⟨#[97, 110, 100]⟩] w fun e w' => e = .returned (.int .i64 (-1)) ∧ w = w' := by
  by_cases hne : l = []
  · subst hne
    obtain ⟨A, cap, rfl, _⟩ := h.shape
    exact (Tryd.slices_Index_string_empty A cap _ w).mono fun e w' ⟨he, hw⟩ => ⟨he, hw.symm⟩
  · obtain ⟨b, off, cap, rfl, q1, q2, q3, q4⟩ := h.cells hne
    refine (Tryd.slices_Index_string b off l.length cap (l.map bs) ⟨#[97, 110, 100]⟩ w (by simp) (by omega) (fun j hj => ?_)).mono fun e w' ⟨he, hw⟩ => ⟨?_, hw.symm⟩
    · simp at hj
      rw [q4 j hj]
      simp [vs, hj]
    · rw [he, idxOfS_miss]
      intro j hj e
      have e' : bs l[j] = (⟨#[97, 110, 100]⟩ : ByteArray) := by simpa [hj] using e
      exact hm _ (List.getElem_mem hj) (bs_inj (e'.trans (show (⟨#[97, 110, 100]⟩ : ByteArray) = bs andW from rfl)))
theorem index_hit (v : Value) (l : List Bs) (w : World) (h : Row vs w w.heap.size v l) (hn : l.length < 1000000) (k : Nat) (hk : k < l.length) (he : l[k] = andW) (hm : ∀ j (hj : j < k), l[j] ≠ andW) :
    Calls Tryd.prog 33 #[v, .string ⟨#[97, 110, 100]⟩] w fun e w' => e = .returned (.int .i64 k) ∧ w = w' := by
  have hne : l ≠ [] := by rintro rfl; simp at hk
  obtain ⟨b, off, cap, rfl, q1, q2, q3, q4⟩ := h.cells hne
  refine (Tryd.slices_Index_string b off l.length cap (l.map bs) ⟨#[97, 110, 100]⟩ w (by simp) (by omega) (fun j hj => ?_)).mono fun e w' ⟨he', hw⟩ => ⟨?_, hw.symm⟩
  · simp at hj
    rw [q4 j hj]
    simp [vs, hj]
  · rw [he', idxOfS_hit (l.map bs) l.length k _ hk (by simp)]
    · simp [hk, he]; rfl
    · intro j hj e
      have hjl : j < l.length := by omega
      have e' : bs l[j] = (⟨#[97, 110, 100]⟩ : ByteArray) := by simpa [hjl] using e
      exact hm j hj (bs_inj (e'.trans (show (⟨#[97, 110, 100]⟩ : ByteArray) = bs andW from rfl)))
end Go.Proofs.YtmnekomoiffebaaDoor
