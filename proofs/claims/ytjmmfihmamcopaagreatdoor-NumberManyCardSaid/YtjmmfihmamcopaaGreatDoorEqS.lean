/- '==' of structs: the fields compared one by one. -/
import Derived.Test.YtjmmfihmamcopaaGreatDoorRows
import Derived.Test.YtjmmfihmamcopaaGreatDoorKit
import Derived.Laws.StructEq
namespace Go.Proofs.YtjmmfihmamcopaaGreatDoor
open Go.RowKit

/-- Fields compared one by one. -/
def FieldsEq (d : Nat) (xs ys : Array Value) : List Field → List Bool → Prop
  | [], [] => True
  | f :: fs, e :: es => f.name ≠ "_" ∧ (∃ a b, (∀ w, (part f.type xs f.offset).run Tryz.prog w = .ok a w) ∧ (∀ w, (part f.type ys f.offset).run Tryz.prog w = .ok b w) ∧ ∀ w, (Op.equalIn d f.type a b).run Tryz.prog w = .ok e w) ∧ FieldsEq d xs ys fs es
  | _, _ => False
theorem eqFields_run (d : Nat) (xs ys : Array Value) (w : World) : ∀ (fs : List Field) (es : List Bool), FieldsEq d xs ys fs es → (Op.eqFields d xs ys fs).run Tryz.prog w = .ok (es.all id) w := by
  intro fs
  induction fs with
  | nil =>
    intro es h
    cases es with
    | nil => simp [Op.eqFields]
    | cons e es => exact absurd h (by simp [FieldsEq])
  | cons f fs ih =>
    intro es h
    cases es with
    | nil => exact absurd h (by simp [FieldsEq])
    | cons e es =>
      obtain ⟨h1, ⟨a, b, h2, h3, h4⟩, h5⟩ := h
      have hr := ih es h5
      cases e with
      | true => simp [Op.eqFields, h1, h2, h3, h4, hr]
      | false => simp [Op.eqFields, h1, h2, h3, h4]
theorem run_part1 (t : TypeId) (xs : Array Value) (o : Nat) (v : Value) (hs : Tryz.prog.underlying t = some .string) (h : xs[o]? = some v) (w : World) : (part t xs o).run Tryz.prog w = .ok v w := by
  simp [part, isAgg, run_underlying hs, h]
end Go.Proofs.YtjmmfihmamcopaaGreatDoor
