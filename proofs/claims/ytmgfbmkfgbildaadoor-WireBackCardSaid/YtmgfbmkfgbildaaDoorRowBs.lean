/- A row of texts, as lists of bytes. -/
import Derived.Test.YtmgfbmkfgbildaaDoorRows
import Derived.Test.YtmgfbmkfgbildaaDoorKit
import Derived.Test.YtmgfbmkfgbildaaDoorStr
namespace Go.Proofs.YtmgfbmkfgbildaaDoor
open Go.RowKit Tx
theorem row_bs {w : World} {B : Nat} {v : Value} {z : List ByteArray} (h : Row Value.string w B v z) (ok : ∀ x ∈ z, x.size ≤ maxLen) : ∃ l : List Bs, Row vs w B v l ∧ (∀ x ∈ l, x.length ≤ maxLen) ∧ l.length = z.length := by
  refine ⟨z.map (·.data.toList), ?_, ?_, by simp⟩
  · obtain ⟨cap, h1, h2, h3⟩ := h
    refine ⟨cap, by simpa using h1, h2, ?_⟩
    rcases h3 with ⟨he, A, hv⟩ | ⟨b, off, hv, hb, hc⟩
    · exact .inl ⟨by simpa using he, A, hv⟩
    · refine .inr ⟨b, off, by simpa using hv, hb, fun j hj => ?_⟩
      have := hc j (by simpa using hj)
      rw [this, List.getElem_map]
      show some (Value.string _) = some (Value.string (bs _))
      rw [bs_of]
  · intro x hx
    obtain ⟨y, hy, rfl⟩ := List.mem_map.1 hx
    rw [size_list]
    exact ok y hy
end Go.Proofs.YtmgfbmkfgbildaaDoor
