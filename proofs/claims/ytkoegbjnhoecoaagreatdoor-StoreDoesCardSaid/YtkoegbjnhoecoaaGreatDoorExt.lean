/- s[:min(len(s), z)]. -/
import Derived.Test.YtkoegbjnhoecoaaGreatDoorRows
import Derived.Test.YtkoegbjnhoecoaaGreatDoorH1
namespace Go.Proofs.YtkoegbjnhoecoaaGreatDoor
open Go.RowKit Tx
theorem xext_minr (x : Bs) (z : Nat) : (bs x).extract 0 (min ((bs x).size : Int) (z : Int)).toNat = bs (x.take z) := by
  rw [bs_extract']
  congr 1
  rw [List.drop_zero, bs_size]
  by_cases h : x.length ≤ z
  · rw [show (min (x.length : Int) (z : Int)).toNat = x.length by omega, List.take_length, List.take_of_length_le h]
  · rw [show (min (x.length : Int) (z : Int)).toNat = z by omega]
end Go.Proofs.YtkoegbjnhoecoaaGreatDoor
