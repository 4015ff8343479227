/- What is shown of a name, for short, by what it is sorted, and what names are called. Plain Lean. -/
import Derived.Test.YtmnekomoiffebaaDoorKit
import Derived.Test.YtmnekomoiffebaaDoorStr
import Derived.Test.YtmnekomoiffebaaDoorNmW6
namespace Go.Proofs.YtmnekomoiffebaaDoor
open Go.RowKit Tx

namespace Tx
theorem join_app (a b : List Bs) (ha : a ≠ []) (hb : b ≠ []) : join (a ++ b) = join a ++ 32 :: join b := by
  induction a with
  | nil => exact absurd rfl ha
  | cons x a ih =>
    cases a with
    | nil =>
      cases b with
      | nil => exact absurd rfl hb
      | cons y b => rw [List.singleton_append, join_cons, join_one]
    | cons z a =>
      rw [List.cons_append, List.cons_append, join_cons, ← List.cons_append, ih (by simp), join_cons]
      simp
theorem join_ne (a : List Bs) (ha : a ≠ []) (h : ∀ x ∈ a, x ≠ []) : join a ≠ [] := by
  cases a with
  | nil => exact absurd rfl ha
  | cons x a =>
    have hx := h x (List.mem_cons_self ..)
    cases a with
    | nil => rw [join_one]; exact hx
    | cons y a => rw [join_cons]; simp
theorem ne_cons (x : Bs) (l : List Bs) : ne (x :: l) = if x = [] then ne l else x :: ne l := by cases x <;> simp [ne]
/-- A list joined, and then more: all joined at once. -/
theorem join_join (a l : List Bs) (h : ∀ x ∈ a, x ≠ []) : join (ne (join a :: l)) = join (a ++ ne l) := by
  by_cases ha : a = []
  · subst ha
    rw [join_nil, ne_cons, if_pos rfl]; rfl
  · rw [ne_cons, if_neg (join_ne a ha h)]
    by_cases hl : ne l = []
    · rw [hl, List.append_nil, join_one]
    · rw [join_app a _ ha hl]
      cases hx : ne l with
      | nil => exact absurd hx hl
      | cons x m => rw [join_cons]

def showS (p : P4) : Bs := (if p.von = [] then [] else p.von ++ [32]) ++ (p.last ++ [44, 32]) ++ (if p.jr = [] then [] else p.jr ++ [44, 32]) ++ p.first
def ini (x : Bs) : Bs := x.take 1 ++ [46]
def shortS (p : P4) : Bs := join ((words p.first).map ini ++ ne [p.von, p.last, p.jr])
theorem short_two (p : P4) : join (ne [join ((words p.first).map ini), p.von, p.last, p.jr]) = shortS p :=
  join_join _ _ fun x hx => by
    obtain ⟨y, _, rfl⟩ := List.mem_map.1 hx
    simp [ini]
def lowr (c : UInt8) : UInt8 := if 65 ≤ c.toNat ∧ c.toNat ≤ 90 then c + 32 else c
def keyT (p : P4) : Bs := p.last ++ [32] ++ p.first ++ [32] ++ p.von ++ [32] ++ p.jr
def keyS (p : P4) : Bs := (join (words (keyT p))).map lowr
def cutS (l : List P4) : List P4 := if 4 < l.length then l.take 3 else l
def labelS (l : List P4) : Bs :=
  match l with
  | [p] => p.last.take 3
  | l => (cutS l).flatMap (fun p => p.last.take 1) ++ (if 4 < l.length then [43] else [])
theorem label_one (p : P4) : labelS [p] = p.last.take 3 := rfl
theorem label_more (l : List P4) (h : l.length ≠ 1) : labelS l = (cutS l).flatMap (fun p => p.last.take 1) ++ (if 4 < l.length then [43] else []) := by
  match l with
  | [] => rfl
  | [p] => exact absurd rfl h
  | _ :: _ :: _ => rfl
theorem flat_step {α : Type} (f : α → Bs) (l : List α) (k : Nat) (h : k < l.length) : (l.take (k + 1)).flatMap f = (l.take k).flatMap f ++ f l[k] := by
  rw [List.take_succ_eq_append_getElem h, List.flatMap_append]
  simp [List.flatMap_cons]
theorem flat_len {α : Type} (f : α → Bs) (n : Nat) (l : List α) (h : ∀ x ∈ l, (f x).length ≤ n) : (l.flatMap f).length ≤ l.length * n := by
  induction l with
  | nil => simp
  | cons a l ih =>
    have h1 := h a (List.mem_cons_self ..)
    have h2 := ih fun x hx => h x (List.mem_cons_of_mem _ hx)
    simp only [List.flatMap_cons, List.length_append, List.length_cons, Nat.add_mul, Nat.one_mul]
    omega
end Tx
end Go.Proofs.YtmnekomoiffebaaDoor
