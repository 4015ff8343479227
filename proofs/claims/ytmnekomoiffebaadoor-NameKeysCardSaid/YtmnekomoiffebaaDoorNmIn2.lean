/- A person, and three texts, as they come in. -/
import Derived.Test.YtmnekomoiffebaaDoorRows
import Derived.Test.YtmnekomoiffebaaDoorKit
import Derived.Test.YtmnekomoiffebaaDoorRowC
import Derived.Test.YtmnekomoiffebaaDoorNmIn
import Derived.WideKeyPair
namespace Go.Proofs.YtmnekomoiffebaaDoor
open Go.RowKit Tx Go.WideShapes

section
variable {H : Type} {enc : TypeId × Value → H} {P : Program} {w : World} {base : Nat} {spare : Nat → Bool} {held : Bool} {t k : TypeId} {d : DataW H} {p : List MemPlace}
theorem in_person {fs : Array Field} (ht : P.underlying t = some (.struct fs)) (hf : fs.toList.map (fun f => (f.type, f.offset)) = [(k, 0), (k, 1), (k, 2), (k, 3)]) (he : P.underlying k = some .string) (hc : P.cellsOf t = 4) (hce : P.cellsOf k = 1)
    {r : Reach} {b0 : Nat} {v : Value} (hval : Value.okWide P w r b0 t v) (h : DataW.Trod enc P w base spare held t v d p) : ∃ a : P4, v = pv a ∧ Big a := by
  obtain ⟨cs, rfl, hs⟩ := okWide_struct ht hval
  obtain ⟨m, hm⟩ := h
  obtain ⟨a, e, hb⟩ := read_four ht hf he hc hce m _ _ hm
  refine ⟨a, ?_, hb⟩
  obtain ⟨l⟩ := cs
  have e' : l = pc a := e
  rw [e']
end
end Go.Proofs.YtmnekomoiffebaaDoor
