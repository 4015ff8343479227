/- Words of letters: the plain laws that stetlaw16.NameForms wants. -/
import Derived.Test.YtmnekomoiffebaaDoorKit
import Derived.Test.YtmnekomoiffebaaDoorStr
import Derived.Test.YtmnekomoiffebaaDoorNmPl
namespace Go.Proofs.YtmnekomoiffebaaDoor
open Go.RowKit Tx

namespace Tx
def vw : Bs := [97, 101, 105, 111, 117, 65, 69, 73, 79, 85]
theorem vw_length : vw.length = 10 := rfl
def vow (c : UInt8) : UInt8 := vw[c.toNat % 10]'(by rw [vw_length]; omega)
theorem vow_mem (c : UInt8) : vow c ∈ vw := List.getElem_mem _
/-- A letter, and letters behind it. -/
def wordTo (h : UInt8) (x : Bs) (k : Nat) : Bs := h :: (x.take k).map vow
def wordOf (h : UInt8) (x : Bs) : Bs := wordTo h x 12
theorem wordTo_length (h : UInt8) (x : Bs) (k : Nat) : (wordTo h x k).length ≤ k + 1 := by simp [wordTo]; omega
theorem wordTo_step (h : UInt8) (x : Bs) (k : Nat) (hk : k < x.length) : wordTo h x (k + 1) = wordTo h x k ++ [vow x[k]] := by
  unfold wordTo
  rw [List.take_succ_eq_append_getElem hk, List.map_append]; rfl
theorem wordTo_end (h : UInt8) (x : Bs) (k : Nat) (hk : k ≤ x.length) (hk2 : k ≤ 12) (he : k = x.length ∨ k = 12) : wordTo h x k = wordOf h x := by
  unfold wordOf wordTo
  rcases he with rfl | rfl
  · rw [List.take_of_length_le (Nat.le_refl _), List.take_of_length_le hk2]
  · rfl
theorem wordOf_wd (h : UInt8) (x : Bs) (hb : bl h = false) (hc : cm h = false) : Wd (wordOf h x) := by
  have hv : ∀ c ∈ vw, bl c = false ∧ cm c = false := by decide
  refine ⟨by simp [wordOf, wordTo], ?_, ?_⟩
  · intro c hm
    rcases List.mem_cons.1 hm with rfl | hm
    · exact hb
    · obtain ⟨d, _, rfl⟩ := List.mem_map.1 hm
      exact (hv _ (vow_mem d)).1
  · intro c hm
    rcases List.mem_cons.1 hm with rfl | hm
    · exact hc
    · obtain ⟨d, _, rfl⟩ := List.mem_map.1 hm
      exact (hv _ (vow_mem d)).2
/-- What the walk wants of three such words. -/
theorem forms (x y z : Bs) : ∃ a v b : Bs, wordOf 65 x = a ∧ wordOf 118 y = v ∧ wordOf 66 z = b ∧ a.length ≤ 13 ∧ v.length ≤ 13 ∧ b.length ≤ 13 ∧
    parse (a ++ 32 :: (v ++ 32 :: b)) = ⟨a, v, b, []⟩ ∧ parse (v ++ 32 :: (b ++ 44 :: 32 :: a)) = ⟨a, v, b, []⟩ ∧ parse (a ++ 32 :: b) = ⟨a, [], b, []⟩ ∧ parse (b ++ 44 :: a) = ⟨a, [], b, []⟩ ∧
    shortS ⟨a, v, b, []⟩ = 65 :: 46 :: 32 :: (v ++ 32 :: b) := by
  have ha := wordOf_wd 65 x (by decide) (by decide)
  have hv := wordOf_wd 118 y (by decide) (by decide)
  have hb := wordOf_wd 66 z (by decide) (by decide)
  refine ⟨_, _, _, rfl, rfl, rfl, wordTo_length _ _ _, wordTo_length _ _ _, wordTo_length _ _ _, form_three ha hv hb rfl rfl, form_comma ha hv hb rfl, form_two ha hb rfl, form_back ha hb, ?_⟩
  rw [form_short ha hv hb]
  rfl
end Tx
end Go.Proofs.YtmnekomoiffebaaDoor
