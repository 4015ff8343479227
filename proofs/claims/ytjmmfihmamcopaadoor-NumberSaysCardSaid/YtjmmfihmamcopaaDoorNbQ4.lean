/- number: what references, citations and counters say. Plain Lean. -/
import Derived.Test.YtjmmfihmamcopaaDoorNbQ3
namespace Go.Proofs.YtjmmfihmamcopaaDoor
open Tx
namespace Nb
/-- The items of the statement. -/
def saysL (key : Bs) (n : Nat) : List It := [⟨7, key⟩, ⟨2, []⟩, ⟨8, key⟩, ⟨2, []⟩, ⟨9, key⟩] ++ List.replicate n ⟨11, key⟩ ++ [⟨3, []⟩, ⟨12, key⟩]
def saysE (key num : Bs) (page : Int) : Env := ⟨[⟨[111, 116, 104, 101, 114], [120], 0⟩, ⟨key, num, page⟩], [], [⟨key ++ [49], [110, 111], []⟩, ⟨key, num, []⟩], []⟩
def cnOf (key : Bs) (n : Nat) : Cn := if n = 0 then [] else [(key, n)]
theorem dig_ne (n : Int) : dig n ≠ [] := by
  unfold dig
  rw [Lib.decDigits]
  split <;> simp
theorem cnOf_get (key : Bs) (n : Nat) : (cnGet (cnOf key n) key).getD 0 = n := by
  unfold cnOf
  split
  · rename_i h; simp [cnGet, h]
  · simp [cnGet]
theorem cnOf_set (key : Bs) (n : Nat) : cnSet (cnOf key n) key (n + 1) = cnOf key (n + 1) := by
  unfold cnOf
  split
  · rename_i h; simp [cnSet, h]
  · simp [cnSet]
theorem cnOf_len (key : Bs) (n : Nat) : (cnOf key n).length < 20 := by
  unfold cnOf
  split <;> simp
theorem step_of (s : St) (key : Bs) (n : Nat) (L : Bs) : Nb.step { s with own := cnOf key n, c := { s.c with last := L } } key = { s with own := cnOf key (n + 1), c := { s.c with last := dig ((n + 1 : Nat) : Int) } } := by
  rw [Nb.step]
  rw [if_neg (by
    rintro ⟨_, h⟩
    have := cnOf_len key n
    have h2 : 20 ≤ (cnOf key n).length := h
    omega)]
  simp only [cnOf_get, cnOf_set]
theorem steps_of (E : Env) (key : Bs) : ∀ (n m : Nat) (s : St) (L : Bs), ∃ L', (List.replicate n (⟨11, key⟩ : It)).foldl (one E) { s with own := cnOf key m, c := { s.c with last := L } } = { s with own := cnOf key (m + n), c := { s.c with last := L' } }
  | 0, m, s, L => ⟨L, rfl⟩
  | n + 1, m, s, L => by
    obtain ⟨L', h⟩ := steps_of E key n (m + 1) s (dig ((m + 1 : Nat) : Int))
    refine ⟨L', ?_⟩
    rw [List.replicate_succ, List.foldl_cons]
    have h1 : one E { s with own := cnOf key m, c := { s.c with last := L } } ⟨11, key⟩ = { s with own := cnOf key (m + 1), c := { s.c with last := dig ((m + 1 : Nat) : Int) } } := by
      rw [← step_of s key m L]
      rfl
    rw [h1, h]
    rw [show m + 1 + n = m + (n + 1) by omega]
theorem says_run (ks ns : Bs) (page : Int) (n : Nat) : (run (saysE (107 :: ks) (110 :: ns) page) (saysL (107 :: ks) n)).blocks = [(0, [110 :: ns, dig page, 91 :: (110 :: ns ++ [93])]), (0, [dig (n : Int)])] ∧ (run (saysE (107 :: ks) (110 :: ns) page) (saysL (107 :: ks) n)).notes = [] ∧ (run (saysE (107 :: ks) (110 :: ns) page) (saysL (107 :: ks) n)).cites = [107 :: ks] := by
  obtain ⟨E, hE⟩ : ∃ E, E = saysE (107 :: ks) (110 :: ns) page := ⟨_, rfl⟩
  have h1 : find E.labels (107 :: ks) = some ⟨107 :: ks, 110 :: ns, page⟩ := by rw [hE]; simp [saysE, find]
  have h2 : ciAt E.bbl (107 :: ks) = some ⟨107 :: ks, 110 :: ns, []⟩ := by rw [hE]; simp [saysE, ciAt]
  obtain ⟨P, hP⟩ : ∃ P, P = dig page := ⟨_, rfl⟩
  have hPn : P ≠ [] := by rw [hP]; exact dig_ne page
  have h3 : ([⟨7, 107 :: ks⟩, ⟨2, []⟩, ⟨8, 107 :: ks⟩, ⟨2, []⟩, ⟨9, 107 :: ks⟩] : List It).foldl (one E) Nb.init = ⟨[(0, [110 :: ns, P, 91 :: (110 :: ns ++ [93])])], [], [], [107 :: ks], [], [], [], [], [], [], ⟨true, true, 3, 0, 0, []⟩, []⟩ := by
    simp [Nb.one, Nb.refer, h1, Nb.say, Nb.flow, Nb.block, Nb.init, onLast, Nb.cite, h2, ← hP, hPn, Nb.once, Nb.noteIf]
  rw [← hE, ← hP]
  unfold run saysL
  rw [List.foldl_append, List.foldl_append, h3]
  obtain ⟨L', h4⟩ := steps_of E (107 :: ks) n 0 ⟨[(0, [110 :: ns, P, 91 :: (110 :: ns ++ [93])])], [], [], [107 :: ks], [], [], [], [], [], [], ⟨true, true, 3, 0, 0, []⟩, []⟩ []
  have h5 : cnOf (107 :: ks) 0 = [] := rfl
  rw [h5] at h4
  simp only [Nat.zero_add] at h4
  rw [h4]
  have h6 := cnOf_get (107 :: ks) n
  obtain ⟨D, hD⟩ : ∃ D, D = dig (n : Int) := ⟨_, rfl⟩
  have hDn : D ≠ [] := by rw [hD]; exact dig_ne _
  rw [← hD]
  simp [Nb.one, Nb.close, Nb.say, Nb.flow, Nb.block, onLast, h6, ← hD, hDn]
end Nb
end Go.Proofs.YtjmmfihmamcopaaDoor
