/- '==' of files. -/
import Derived.Test.YtkoegbjnhoecoaaGreatDoorH3
import Derived.Test.YtkoegbjnhoecoaaGreatDoorEqS
import Derived.Test.YtkoegbjnhoecoaaGreatDoorH2
namespace Go.Proofs.YtkoegbjnhoecoaaGreatDoor
open Go.RowKit Tx

theorem fUnder : Tryz.prog.underlying 29 = some (.struct (Tryz.prog.fieldsOf 29)) := by kernel_rfl
theorem fStood : Tryz.prog.stoodInHeld 29 = false := by kernel_rfl
theorem fGuard : Tryz.prog.eqGuardType Tryz.prog.depth 29 = false := by kernel_rfl
theorem fFields : (Tryz.prog.fieldsOf 29).toList.map (fun f => (f.name == "_", f.type, f.offset)) = [(false, 9, 0), (false, 9, 1)] := by kernel_rfl
def eqF (p q : Wr.F) : Bool := p.1 == q.1 && p.2 == q.2
theorem eqF_self (p : Wr.F) : eqF p p = true := by simp [eqF]
theorem eqF_ne (p q : Wr.F) (h : p ≠ q) : eqF p q = false := by
  cases hc : eqF p q with
  | false => rfl
  | true =>
    simp only [eqF, Bool.and_eq_true, beq_iff_eq] at hc
    exact absurd (Prod.ext hc.1 hc.2) h
set_option maxRecDepth 100000 in
theorem eq_file (p q : Wr.F) (w : World) : (binOp .eql 29 (.agg #[.string (bs p.1), .string (bs p.2)]) (.agg #[.string (bs q.1), .string (bs q.2)])).run Tryz.prog w = .ok (.bool (eqF p q)) w := by
  rw [run_eql_struct, run_equalIn_struct w _ _ _ _ fUnder fStood]
  have h := fFields
  generalize (Tryz.prog.fieldsOf 29).toList = fs at *
  have key : FieldsEq 9999 #[.string (bs p.1), .string (bs p.2)] #[.string (bs q.1), .string (bs q.2)] fs [p.1 == q.1, p.2 == q.2] := by
    rcases fs with _ | ⟨a, _ | ⟨b, _ | ⟨c, r⟩⟩⟩
    all_goals simp only [List.map_cons, List.map_nil, List.cons.injEq, Prod.mk.injEq, and_true, reduceCtorEq, and_false] at h
    obtain ⟨⟨a1, a2, a3⟩, ⟨b1, b2, b3⟩⟩ := h
    simp only [beq_eq_false_iff_ne] at a1 b1
    have st : ∀ (x y : Bs) w, (Op.equalIn 9999 9 (.string (bs x)) (.string (bs y))).run Tryz.prog w = .ok (x == y) w := fun x y w => by
      rw [run_equalIn_string w 9998 _ _ _ Tryz.underlying9, toListB, toListB]
    refine ⟨a1, ⟨.string (bs p.1), .string (bs q.1), ?_, ?_, ?_⟩, b1, ⟨.string (bs p.2), .string (bs q.2), ?_, ?_, ?_⟩, trivial⟩
    all_goals (try rw [a2]); (try rw [a3]); (try rw [b2]); (try rw [b3])
    all_goals (first | exact st _ _ | exact run_part1 _ _ _ _ Tryz.underlying9 rfl)
  rw [eqFields_run _ _ _ _ _ _ key]
  simp [eqF]
set_option maxRecDepth 100000 in
theorem eqAtF (p q : Wr.F) (w : World) : (Op.equalIn 10000 29 (.agg #[.string (bs p.1), .string (bs p.2)]) (.agg #[.string (bs q.1), .string (bs q.2)])).run Tryz.prog w = .ok (eqF p q) w := by
  have h := eq_file p q w
  rw [run_eql_struct] at h
  generalize hr : (Op.equalIn 10000 29 (.agg #[.string (bs p.1), .string (bs p.2)]) (.agg #[.string (bs q.1), .string (bs q.2)])).run Tryz.prog w = r at *
  cases r with
  | ok x w2 => simp only [Result.andThen_ok] at h; injection h with h3 h4; injection h3 with h5; rw [h4, h5]
  | halt x w2 => simp [Result.andThen] at h

end Go.Proofs.YtkoegbjnhoecoaaGreatDoor
