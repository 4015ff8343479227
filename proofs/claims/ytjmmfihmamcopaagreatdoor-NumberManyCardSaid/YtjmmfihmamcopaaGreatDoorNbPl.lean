/- number, as plain functions over texts and lists. -/
import Derived.Test.YtjmmfihmamcopaaGreatDoorNbO
import Derived.Lib.SplitLaws
import Derived.Lib.ItoaNum
namespace Go.Proofs.YtjmmfihmamcopaaGreatDoor
open Tx

namespace Nb
structure Lab where
  key : Bs
  num : Bs
  page : Int
structure Hd where
  level : Int
  num : Bs
  title : Bs
  page : Int
structure Ci where
  key : Bs
  label : Bs
  text : Bs
structure It where
  kind : Int
  s : Bs
structure Side where
  labels : List Lab
  heads : List Hd
  cites : List Bs
  bibs : List Bs
/-- What items are numbered over. -/
structure Env where
  labels : List Lab
  heads : List Hd
  bbl : List Ci
  ind : List Bs
/-- What goes on, but for the lists. -/
structure Sc where
  flows : Bool
  op : Bool
  words : Nat
  sec : Nat
  sub : Nat
  last : Bs
structure St where
  blocks : List (Int × List Bs)
  labels : List Lab
  heads : List Hd
  cites : List Bs
  bibs : List Bs
  la : List Int
  ha : List Int
  ia : List Int
  index : List Bs
  notes : List (Int × Bs)
  c : Sc
  own : Cn
def init : St := ⟨[], [], [], [], [], [], [], [], [], [], ⟨false, false, 0, 0, 0, []⟩, []⟩
def dig (n : Int) : Bs := Lib.decDigits (min (max n 0) 999999).toNat
def spl (t : Bs) : List Bs := Lib.split t [32]
def onLast {α : Type} (f : α → α) (l : List α) : List α := match l.getLast? with | some x => l.dropLast ++ [f x] | none => l
theorem onLast_snoc {α : Type} (f : α → α) (l : List α) (x : α) : onLast f (l ++ [x]) = l ++ [f x] := by simp [onLast]
def note (s : St) (e : Int) (t : Bs) : St := { s with notes := s.notes ++ [(e, t)] }
def block (s : St) (k : Int) (ws : List Bs) : St := { s with blocks := s.blocks ++ [(k, ws)], c := { s.c with words := s.c.words + ws.length } }
def close (s : St) : St := { s with c := { s.c with flows := false, op := false } }
def here (s : St) : Int := if s.c.op then (s.c.words : Int) - 1 else s.c.words
def flow (s : St) : St := if s.c.flows then s else { block s 0 [] with c := { s.c with flows := true } }
def say (s : St) (t : Bs) : St :=
  if t = [] then s else
  let s := flow s
  if s.c.op then { s with blocks := onLast (fun b => (b.1, onLast (· ++ t) b.2)) s.blocks }
  else { s with blocks := onLast (fun b => (b.1, b.2 ++ [t])) s.blocks, c := { s.c with op := true, words := s.c.words + 1 } }
def headNum (s : St) (x : It) : Sc :=
  if x.kind = 4 then { s.c with sec := s.c.sec + 1, sub := 0, last := dig (s.c.sec + 1 : Nat) }
  else { s.c with sub := s.c.sub + 1, last := dig s.c.sec ++ 46 :: dig (s.c.sub + 1 : Nat) }
def head (s : St) (x : It) : St :=
  if 100 ≤ s.heads.length then note s 3 x.s else
  let s := close s
  let c := headNum s x
  block { s with ha := s.ha ++ [(c.words : Int)], heads := s.heads ++ [⟨if x.kind = 4 then 1 else 2, c.last, x.s, 0⟩], c := c } 1 (c.last :: spl x.s)
def find (l : List Lab) (k : Bs) : Option Lab := l.find? fun x => x.key == k
def label (s : St) (k : Bs) : St :=
  if (find s.labels k).isSome then note s 12 k
  else if 100 ≤ s.labels.length then note s 3 k
  else { s with labels := s.labels ++ [⟨k, s.c.last, 0⟩], la := s.la ++ [here s] }
def refer (E : Env) (s : St) (x : It) : St := match find E.labels x.s with
  | none => note (say s [63, 63]) 13 x.s
  | some l => if x.kind = 7 then say s l.num else say s (dig l.page)
/-- A text put into a list, and whether there was no room. -/
def once (l : List Bs) (t : Bs) (most : Nat) : List Bs × Bool := if t ∈ l then (l, false) else if most ≤ l.length then (l, true) else (l ++ [t], false)
def noteIf (s : St) (b : Bool) (t : Bs) : St := if b then note s 3 t else s
def ciAt (l : List Ci) (k : Bs) : Option Ci := l.find? fun x => x.key == k
def cite (E : Env) (s : St) (k : Bs) : St :=
  let s := match ciAt E.bbl k with
    | none => note (say s [91, 63, 93]) 14 k
    | some c => say s (91 :: (c.label ++ [93]))
  noteIf { s with cites := (once s.cites k 100).1 } (once s.cites k 100).2 k
def indexT (s : St) (t : Bs) : St := if 200 ≤ s.index.length then note s 3 t else { s with index := s.index ++ [t], ia := s.ia ++ [here s] }
def step (s : St) (t : Bs) : St :=
  if cnGet s.own t = none ∧ 20 ≤ s.own.length then note s 3 t
  else { s with own := cnSet s.own t ((cnGet s.own t).getD 0 + 1), c := { s.c with last := dig ((cnGet s.own t).getD 0 + 1 : Nat) } }
def ciLine (c : Ci) : Bs := 91 :: (c.label ++ 93 :: 32 :: c.text)
def hdLine (h : Hd) : Bs := (if h.level = 2 then [32, 32] else []) ++ h.num ++ 32 :: (h.title ++ 32 :: dig h.page)
def lines (s : St) (l : List Bs) : St := l.foldl (fun s t => block s 2 [t]) s
def rows (E : Env) (s : St) (x : It) : St :=
  let s := close s
  if x.kind = 13 then lines (noteIf { s with bibs := (once s.bibs x.s 8).1 } (once s.bibs x.s 8).2 x.s) (E.bbl.map ciLine)
  else if x.kind = 14 then lines s (E.heads.map hdLine)
  else lines s E.ind
def one (E : Env) (s : St) (x : It) : St :=
  if x.kind = 1 then say s x.s
  else if x.kind = 2 then { s with c := { s.c with op := false } }
  else if x.kind = 4 ∨ x.kind = 5 then head s x
  else if x.kind = 6 then label s x.s
  else if x.kind = 7 ∨ x.kind = 8 then refer E s x
  else if x.kind = 9 then cite E s x.s
  else if x.kind = 10 then indexT s x.s
  else if x.kind = 11 then step s x.s
  else if x.kind = 12 then say s (dig ((cnGet s.own x.s).getD 0 : Nat))
  else if x.kind = 13 ∨ x.kind = 14 ∨ x.kind = 15 then rows E s x
  else if x.kind = 16 then close (block s 3 [])
  else if x.kind = 3 then close s
  else s
def run (E : Env) (l : List It) : St := l.foldl (one E) init

/-! ### What stays within bounds -/
theorem splitK_len (sep : Bs) : ∀ (k : Nat) (s : Bs), (Lib.splitK sep 0 k s).length ≤ k + 1 ∧ ∀ w ∈ Lib.splitK sep 0 k s, w.length ≤ s.length := by
  intro k
  induction k with
  | zero => intro s; simp [Lib.splitK]
  | succ k ih =>
    intro s
    unfold Lib.splitK
    split
    · simp
    · obtain ⟨h1, h2⟩ := ih (s.drop ((Lib.index s sep).toNat + sep.length))
      refine ⟨by simp; omega, fun w hw => ?_⟩
      rcases List.mem_cons.1 hw with rfl | hw
      · simp; omega
      · have := h2 w hw
        simp at this
        omega
theorem spl_len (t : Bs) : (spl t).length ≤ t.length + 1 ∧ ∀ w ∈ spl t, w.length ≤ t.length := by
  obtain ⟨h1, h2⟩ := splitK_len [32] (Lib.count t [32]) t
  refine ⟨?_, h2⟩
  have : Lib.count t [32] ≤ t.length := by rw [Lib.count_one]; exact List.count_le_length
  unfold spl Lib.split
  omega
theorem dig_len6 (n : Int) : (dig n).length ≤ 6 := by
  have : ∀ k m : Nat, m < 10 ^ (k + 1) → (Lib.decDigits m).length ≤ k + 1 := by
    intro k
    induction k with
    | zero => intro m hm; rw [Lib.decDigits, dif_pos (by omega)]; simp
    | succ k ih =>
      intro m hm
      by_cases h : m < 10
      · rw [Lib.decDigits, dif_pos h]; simp
      · rw [Lib.decDigits, dif_neg h]
        have := ih (m / 10) (by rw [Nat.pow_succ] at hm; omega)
        simp
        omega
  exact this 5 _ (by omega)
structure Bd (s : St) (T : Nat) : Prop where
  bl : s.blocks.length ≤ T
  wd : ∀ b ∈ s.blocks, b.2.length ≤ T ∧ ∀ w ∈ b.2, w.length ≤ T
  nt : s.notes.length ≤ T
  la : s.la.length ≤ T
  ia : s.ia.length ≤ T
  ha : s.ha.length ≤ T
  hd : s.heads.length ≤ T
  lb : s.labels.length ≤ T
  ci : s.cites.length ≤ T
  bb : s.bibs.length ≤ T
  ix : s.index.length ≤ T
  wo : s.c.words ≤ T
  sc : s.c.sec ≤ T
  su : s.c.sub ≤ T
  ow : s.own.length ≤ T
  og : ∀ t n, cnGet s.own t = some n → n ≤ T
theorem Bd.mono {s : St} {T T' : Nat} (h : Bd s T) (hT : T ≤ T') : Bd s T' := by
  obtain ⟨a, b, c, d, e, f, g, i, j, k, l, m, n, o, p, q⟩ := h
  refine ⟨by omega, fun x hx => ?_, by omega, by omega, by omega, by omega, by omega, by omega, by omega, by omega, by omega, by omega, by omega, by omega, by omega, fun t n hn => by have := q t n hn; omega⟩
  obtain ⟨b1, b2⟩ := b x hx
  exact ⟨by omega, fun w hw => by have := b2 w hw; omega⟩
theorem Bd.init : Bd init 0 := ⟨by simp [Nb.init], by simp [Nb.init], by simp [Nb.init], by simp [Nb.init], by simp [Nb.init], by simp [Nb.init], by simp [Nb.init], by simp [Nb.init], by simp [Nb.init], by simp [Nb.init], by simp [Nb.init], by simp [Nb.init], by simp [Nb.init], by simp [Nb.init], by simp [Nb.init], by simp [Nb.init, cnGet]⟩
/-- What is open is what flows; what flows is the last block. -/
structure Inv (s : St) : Prop where
  op : s.c.op = true → s.c.flows = true
  fl : s.c.flows = true → ∃ bs ws, s.blocks = bs ++ [((0 : Int), ws)] ∧ (s.c.op = true → ws ≠ [])
theorem Inv.init : Inv init := ⟨by simp [Nb.init], by simp [Nb.init]⟩
end Nb
end Go.Proofs.YtjmmfihmamcopaaGreatDoor
