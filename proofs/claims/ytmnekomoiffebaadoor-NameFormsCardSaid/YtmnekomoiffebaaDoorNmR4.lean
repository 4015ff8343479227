/- The walk of stetref16.Parse. -/
import Derived.Test.YtmnekomoiffebaaDoorRows
import Derived.Test.YtmnekomoiffebaaDoorKit
import Derived.Test.YtmnekomoiffebaaDoorStr
import Derived.Test.YtmnekomoiffebaaDoorShelf
import Derived.Test.YtmnekomoiffebaaDoorNmW1
import Derived.Test.YtmnekomoiffebaaDoorNmW2
import Derived.Test.YtmnekomoiffebaaDoorNmW3
import Derived.Test.YtmnekomoiffebaaDoorNmW4
import Derived.Test.YtmnekomoiffebaaDoorNmW6
import Derived.Test.YtmnekomoiffebaaDoorNmW7
import Derived.Test.YtmnekomoiffebaaDoorNmW8
import Derived.Test.YtmnekomoiffebaaDoorNmR1
import Derived.Test.YtmnekomoiffebaaDoorNmR2
import Derived.Test.YtmnekomoiffebaaDoorNmR3
namespace Go.Proofs.YtmnekomoiffebaaDoor
open Go.RowKit Go.Lib Go.Sort Tx

namespace Tx
/-- The first small word of those below k; -1: none. -/
def fst1 (l : List Bs) (k : Nat) : Int := if lastUp l k = 0 then -1 else (firstS l : Nat)
theorem lastUp_none (l : List Bs) (k : Nat) (h : lastUp l k = 0) : ∀ j, j < k → sm (l[j]?.getD []) = false := by
  induction k with
  | zero => intro j hj; omega
  | succ k ih =>
    unfold lastUp at h
    split at h
    · cases h
    · rename_i hs
      intro j hj
      by_cases he : j = k
      · subst he; simpa using hs
      · exact ih h j (by omega)
theorem firstS_at (l : List Bs) (k : Nat) (hk : k < l.length) (h0 : lastUp l k = 0) (hs : sm l[k] = true) : firstS l = k := by
  have hn := lastUp_none l k h0
  unfold firstS
  have h1 : l.findIdx sm ≤ k := by
    rcases Nat.lt_or_ge k (l.findIdx sm) with h4 | h4
    · have := List.not_of_lt_findIdx h4
      rw [hs] at this; cases this
    · exact h4
  rcases Nat.lt_or_ge (l.findIdx sm) k with h4 | h4
  · have hlt : l.findIdx sm < l.length := by omega
    have h5 := hn _ h4
    rw [List.getElem?_eq_getElem hlt, Option.getD_some] at h5
    have h6 : sm (l[l.findIdx sm]'hlt) = true := List.findIdx_getElem
    rw [h5] at h6; cases h6
  · omega
theorem lastUp_step (l : List Bs) (k : Nat) (hk : k < l.length) : lastUp l (k + 1) = if sm l[k] = true then k + 1 else lastUp l k := by
  conv => lhs; unfold lastUp
  rw [List.getElem?_eq_getElem hk, Option.getD_some]
theorem fst1_step (l : List Bs) (k : Nat) (hk : k < l.length) : fst1 l (k + 1) = if sm l[k] = true then (if fst1 l k < 0 then (k : Int) else fst1 l k) else fst1 l k := by
  unfold fst1
  rw [lastUp_step l k hk]
  by_cases hs : sm l[k] = true
  · simp only [hs, if_true]
    rw [if_neg (Nat.succ_ne_zero k)]
    by_cases h0 : lastUp l k = 0
    · rw [if_pos h0, if_pos (by decide), firstS_at l k hk h0 hs]
    · rw [if_neg h0, if_neg (by omega)]
  · simp only [hs]
    simp
end Tx
theorem Txs.rowAt {base : Nat} {w w' : World} {v : Value} {l : List Bs} (h : Txs base w v l) (hb : Below w.heap.size w w') : Row vs w' w'.heap.size v l := (h.below hb).row

end Go.Proofs.YtmnekomoiffebaaDoor
