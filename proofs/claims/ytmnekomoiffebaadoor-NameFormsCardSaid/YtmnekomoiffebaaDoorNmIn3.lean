/- Three texts as they come in. -/
import Derived.Test.YtmnekomoiffebaaDoorRows
import Derived.Test.YtmnekomoiffebaaDoorKit
import Derived.Test.YtmnekomoiffebaaDoorRowC
import Derived.Test.YtmnekomoiffebaaDoorNmIn
import Derived.WideKeyPair
namespace Go.Proofs.YtmnekomoiffebaaDoor
open Go.RowKit Tx Go.WideShapes Go.WideMaps

section
variable {H : Type} {enc : TypeId × Value → H} {P : Program} {w : World} {base : Nat} {spare : Nat → Bool} {held : Bool} {t k : TypeId} {d : DataW H} {p : List MemPlace}
abbrev T3v (a : Bs × Bs × Bs) : Value := .agg #[.string (bs a.1), .string (bs a.2.1), .string (bs a.2.2)]
abbrev T3ok (a : Bs × Bs × Bs) : Prop := a.1.length ≤ maxLen ∧ a.2.1.length ≤ maxLen ∧ a.2.2.length ≤ maxLen
theorem okWide_three (A : ArrKey P t k 3) {r : Reach} {b0 : Nat} {v : Value} (hval : Value.okWide P w r b0 t v) : ∃ cs, v = .agg cs := by
  simp only [Value.okWide, A.hu] at hval
  obtain ⟨cs, h1, h2, _⟩ := hval
  exact ⟨cs, h1⟩
theorem in_three (A : ArrKey P t k 3) (he : P.underlying k = some .string) {r : Reach} {b0 : Nat} {v : Value} (hval : Value.okWide P w r b0 t v) (h : DataW.Trod enc P w base spare held t v d p) : ∃ a : Bs × Bs × Bs, v = T3v a ∧ T3ok a := by
  obtain ⟨cs, rfl⟩ := okWide_three A hval
  obtain ⟨m, hm⟩ := h
  obtain ⟨xs, m', _, _, h1, h2, h3⟩ := DataW.trod_array A.hu hm
  rw [A.size] at h1
  have each : ∀ i, i < 3 → ∃ l : Bs, (Value.agg cs).cells.toList[i]? = some (.string (bs l)) ∧ l.length ≤ maxLen := by
    intro i hi
    have h9 := h3 i hi
    rw [A.one, Nat.mul_one, List.getElem?_eq_getElem (by omega)] at h9
    exact field_string he (by omega) h9 rfl
  obtain ⟨l0, a0, b0⟩ := each 0 (by omega)
  obtain ⟨l1, a1, b1⟩ := each 1 (by omega)
  obtain ⟨l2, a2, b2⟩ := each 2 (by omega)
  refine ⟨(l0, l1, l2), ?_, b0, b1, b2⟩
  obtain ⟨l⟩ := cs
  have e : l = [.string (bs l0), .string (bs l1), .string (bs l2)] := by
    apply List.ext_getElem?
    intro i
    rcases i with _ | _ | _ | i
    · exact a0
    · exact a1
    · exact a2
    · rw [List.getElem?_eq_none (by have : l.length = 3 := h1; omega), List.getElem?_eq_none (by simp)]
  rw [e]
end
end Go.Proofs.YtmnekomoiffebaaDoor
