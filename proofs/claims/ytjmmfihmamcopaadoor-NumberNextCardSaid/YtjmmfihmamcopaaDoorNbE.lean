/- '==' of notes, labels and headings. -/
import Derived.Test.YtjmmfihmamcopaaDoorNb2
import Derived.Test.YtjmmfihmamcopaaDoorEqS
import Derived.Test.YtjmmfihmamcopaaDoorWo
import Derived.Test.YtjmmfihmamcopaaDoorIn
namespace Go.Proofs.YtjmmfihmamcopaaDoor
open Go.RowKit Tx Nb

theorem run_parti (t : TypeId) (xs : Array Value) (o : Nat) (v : Value) (k : IntKind) (hs : Tryd.prog.underlying t = some (.int k)) (h : xs[o]? = some v) (w : World) : (part t xs o).run Tryd.prog w = .ok v w := by
  simp [part, isAgg, run_underlying hs, h]
theorem toListB' (x : Bs) : (bs x).toList = x := toList_bs x
theorem uNt : Tryd.prog.underlying 82 = some (.struct (Tryd.prog.fieldsOf 82)) := by kernel_rfl
theorem sNt : Tryd.prog.stoodInHeld 82 = false := by kernel_rfl
theorem gNt : Tryd.prog.eqGuardType Tryd.prog.depth 82 = false := by kernel_rfl
theorem fNt : (Tryd.prog.fieldsOf 82).toList.map (fun f => (f.name == "_", f.type, f.offset)) = [(false, 80, 0), (false, 9, 1)] := by kernel_rfl
set_option maxRecDepth 100000 in
theorem eqNt (p q : (Int × Bs)) (w : World) : (binOp .eql 82 (.agg #[.int .i64 p.1, .string (bs p.2)]) (.agg #[.int .i64 q.1, .string (bs q.2)])).run Tryd.prog w = .ok (.bool ([p.1 == q.1, p.2 == q.2].all id)) w := by
  rw [run_eql_struct, run_equalIn_struct w _ _ _ _ uNt sNt]
  have h := fNt
  generalize (Tryd.prog.fieldsOf 82).toList = fs at *
  have key : FieldsEq 9999 #[.int .i64 p.1, .string (bs p.2)] #[.int .i64 q.1, .string (bs q.2)] fs [p.1 == q.1, p.2 == q.2] := by
    rcases fs with _ | ⟨f0, _ | ⟨f1, _ | ⟨fx, r⟩⟩⟩
    all_goals simp only [List.map_cons, List.map_nil, List.cons.injEq, Prod.mk.injEq, and_true, reduceCtorEq, and_false] at h
    obtain ⟨⟨a0, b0, c0⟩, ⟨a1, b1, c1⟩⟩ := h
    simp only [beq_eq_false_iff_ne] at a0 a1
    have st : ∀ (x y : Bs) w, (Op.equalIn 9999 9 (.string (bs x)) (.string (bs y))).run Tryd.prog w = .ok (x == y) w := fun x y w => by
      rw [run_equalIn_string w 9998 _ _ _ Tryd.underlying9, toListB', toListB']
    have si0 : ∀ (x y : Int) w, (Op.equalIn 9999 80 (.int .i64 x) (.int .i64 y)).run Tryd.prog w = .ok (x == y) w := fun x y w => run_equalIn_int (w := w) 9998 _ _ _ x y Tryd.underlying80
    exact ⟨a0, ⟨Value.int .i64 (p.1), Value.int .i64 (q.1), by rw [b0, c0]; exact run_parti _ _ _ _ _ Tryd.underlying80 rfl, by rw [b0, c0]; exact run_parti _ _ _ _ _ Tryd.underlying80 rfl, by rw [b0]; exact si0 _ _⟩, a1, ⟨Value.string (bs (p.2)), Value.string (bs (q.2)), by rw [b1, c1]; exact run_part1 _ _ _ _ Tryd.underlying9 rfl, by rw [b1, c1]; exact run_part1 _ _ _ _ Tryd.underlying9 rfl, by rw [b1]; exact st _ _⟩, trivial⟩
  rw [eqFields_run _ _ _ _ _ _ key]
  rfl
set_option maxRecDepth 100000 in
theorem eqAtNt (p q : (Int × Bs)) (w : World) : (Op.equalIn 10000 82 (.agg #[.int .i64 p.1, .string (bs p.2)]) (.agg #[.int .i64 q.1, .string (bs q.2)])).run Tryd.prog w = .ok ([p.1 == q.1, p.2 == q.2].all id) w := by
  have h := eqNt p q w
  rw [run_eql_struct] at h
  generalize hr : (Op.equalIn 10000 82 (.agg #[.int .i64 p.1, .string (bs p.2)]) (.agg #[.int .i64 q.1, .string (bs q.2)])).run Tryd.prog w = r at *
  cases r with
  | ok x w2 => simp only [Result.andThen_ok] at h; injection h with h3 h4; injection h3 with h5; rw [h4, h5]
  | halt x w2 => simp [Result.andThen] at h
theorem uLb : Tryd.prog.underlying 76 = some (.struct (Tryd.prog.fieldsOf 76)) := by kernel_rfl
theorem sLb : Tryd.prog.stoodInHeld 76 = false := by kernel_rfl
theorem gLb : Tryd.prog.eqGuardType Tryd.prog.depth 76 = false := by kernel_rfl
theorem fLb : (Tryd.prog.fieldsOf 76).toList.map (fun f => (f.name == "_", f.type, f.offset)) = [(false, 9, 0), (false, 9, 1), (false, 3, 2)] := by kernel_rfl
set_option maxRecDepth 100000 in
theorem eqLb (p q : Lab) (w : World) : (binOp .eql 76 (.agg #[.string (bs p.key), .string (bs p.num), .int .i64 p.page]) (.agg #[.string (bs q.key), .string (bs q.num), .int .i64 q.page])).run Tryd.prog w = .ok (.bool ([p.key == q.key, p.num == q.num, p.page == q.page].all id)) w := by
  rw [run_eql_struct, run_equalIn_struct w _ _ _ _ uLb sLb]
  have h := fLb
  generalize (Tryd.prog.fieldsOf 76).toList = fs at *
  have key : FieldsEq 9999 #[.string (bs p.key), .string (bs p.num), .int .i64 p.page] #[.string (bs q.key), .string (bs q.num), .int .i64 q.page] fs [p.key == q.key, p.num == q.num, p.page == q.page] := by
    rcases fs with _ | ⟨f0, _ | ⟨f1, _ | ⟨f2, _ | ⟨fx, r⟩⟩⟩⟩
    all_goals simp only [List.map_cons, List.map_nil, List.cons.injEq, Prod.mk.injEq, and_true, reduceCtorEq, and_false] at h
    obtain ⟨⟨a0, b0, c0⟩, ⟨a1, b1, c1⟩, ⟨a2, b2, c2⟩⟩ := h
    simp only [beq_eq_false_iff_ne] at a0 a1 a2
    have st : ∀ (x y : Bs) w, (Op.equalIn 9999 9 (.string (bs x)) (.string (bs y))).run Tryd.prog w = .ok (x == y) w := fun x y w => by
      rw [run_equalIn_string w 9998 _ _ _ Tryd.underlying9, toListB', toListB']
    have si2 : ∀ (x y : Int) w, (Op.equalIn 9999 3 (.int .i64 x) (.int .i64 y)).run Tryd.prog w = .ok (x == y) w := fun x y w => run_equalIn_int (w := w) 9998 _ _ _ x y Tryd.underlying3
    exact ⟨a0, ⟨Value.string (bs (p.key)), Value.string (bs (q.key)), by rw [b0, c0]; exact run_part1 _ _ _ _ Tryd.underlying9 rfl, by rw [b0, c0]; exact run_part1 _ _ _ _ Tryd.underlying9 rfl, by rw [b0]; exact st _ _⟩, a1, ⟨Value.string (bs (p.num)), Value.string (bs (q.num)), by rw [b1, c1]; exact run_part1 _ _ _ _ Tryd.underlying9 rfl, by rw [b1, c1]; exact run_part1 _ _ _ _ Tryd.underlying9 rfl, by rw [b1]; exact st _ _⟩, a2, ⟨Value.int .i64 (p.page), Value.int .i64 (q.page), by rw [b2, c2]; exact run_parti _ _ _ _ _ Tryd.underlying3 rfl, by rw [b2, c2]; exact run_parti _ _ _ _ _ Tryd.underlying3 rfl, by rw [b2]; exact si2 _ _⟩, trivial⟩
  rw [eqFields_run _ _ _ _ _ _ key]
  rfl
set_option maxRecDepth 100000 in
theorem eqAtLb (p q : Lab) (w : World) : (Op.equalIn 10000 76 (.agg #[.string (bs p.key), .string (bs p.num), .int .i64 p.page]) (.agg #[.string (bs q.key), .string (bs q.num), .int .i64 q.page])).run Tryd.prog w = .ok ([p.key == q.key, p.num == q.num, p.page == q.page].all id) w := by
  have h := eqLb p q w
  rw [run_eql_struct] at h
  generalize hr : (Op.equalIn 10000 76 (.agg #[.string (bs p.key), .string (bs p.num), .int .i64 p.page]) (.agg #[.string (bs q.key), .string (bs q.num), .int .i64 q.page])).run Tryd.prog w = r at *
  cases r with
  | ok x w2 => simp only [Result.andThen_ok] at h; injection h with h3 h4; injection h3 with h5; rw [h4, h5]
  | halt x w2 => simp [Result.andThen] at h
theorem uHd : Tryd.prog.underlying 77 = some (.struct (Tryd.prog.fieldsOf 77)) := by kernel_rfl
theorem sHd : Tryd.prog.stoodInHeld 77 = false := by kernel_rfl
theorem gHd : Tryd.prog.eqGuardType Tryd.prog.depth 77 = false := by kernel_rfl
theorem fHd : (Tryd.prog.fieldsOf 77).toList.map (fun f => (f.name == "_", f.type, f.offset)) = [(false, 3, 0), (false, 9, 1), (false, 9, 2), (false, 3, 3)] := by kernel_rfl
set_option maxRecDepth 100000 in
theorem eqHd (p q : Hd) (w : World) : (binOp .eql 77 (.agg #[.int .i64 p.level, .string (bs p.num), .string (bs p.title), .int .i64 p.page]) (.agg #[.int .i64 q.level, .string (bs q.num), .string (bs q.title), .int .i64 q.page])).run Tryd.prog w = .ok (.bool ([p.level == q.level, p.num == q.num, p.title == q.title, p.page == q.page].all id)) w := by
  rw [run_eql_struct, run_equalIn_struct w _ _ _ _ uHd sHd]
  have h := fHd
  generalize (Tryd.prog.fieldsOf 77).toList = fs at *
  have key : FieldsEq 9999 #[.int .i64 p.level, .string (bs p.num), .string (bs p.title), .int .i64 p.page] #[.int .i64 q.level, .string (bs q.num), .string (bs q.title), .int .i64 q.page] fs [p.level == q.level, p.num == q.num, p.title == q.title, p.page == q.page] := by
    rcases fs with _ | ⟨f0, _ | ⟨f1, _ | ⟨f2, _ | ⟨f3, _ | ⟨fx, r⟩⟩⟩⟩⟩
    all_goals simp only [List.map_cons, List.map_nil, List.cons.injEq, Prod.mk.injEq, and_true, reduceCtorEq, and_false] at h
    obtain ⟨⟨a0, b0, c0⟩, ⟨a1, b1, c1⟩, ⟨a2, b2, c2⟩, ⟨a3, b3, c3⟩⟩ := h
    simp only [beq_eq_false_iff_ne] at a0 a1 a2 a3
    have st : ∀ (x y : Bs) w, (Op.equalIn 9999 9 (.string (bs x)) (.string (bs y))).run Tryd.prog w = .ok (x == y) w := fun x y w => by
      rw [run_equalIn_string w 9998 _ _ _ Tryd.underlying9, toListB', toListB']
    have si0 : ∀ (x y : Int) w, (Op.equalIn 9999 3 (.int .i64 x) (.int .i64 y)).run Tryd.prog w = .ok (x == y) w := fun x y w => run_equalIn_int (w := w) 9998 _ _ _ x y Tryd.underlying3
    have si3 : ∀ (x y : Int) w, (Op.equalIn 9999 3 (.int .i64 x) (.int .i64 y)).run Tryd.prog w = .ok (x == y) w := fun x y w => run_equalIn_int (w := w) 9998 _ _ _ x y Tryd.underlying3
    exact ⟨a0, ⟨Value.int .i64 (p.level), Value.int .i64 (q.level), by rw [b0, c0]; exact run_parti _ _ _ _ _ Tryd.underlying3 rfl, by rw [b0, c0]; exact run_parti _ _ _ _ _ Tryd.underlying3 rfl, by rw [b0]; exact si0 _ _⟩, a1, ⟨Value.string (bs (p.num)), Value.string (bs (q.num)), by rw [b1, c1]; exact run_part1 _ _ _ _ Tryd.underlying9 rfl, by rw [b1, c1]; exact run_part1 _ _ _ _ Tryd.underlying9 rfl, by rw [b1]; exact st _ _⟩, a2, ⟨Value.string (bs (p.title)), Value.string (bs (q.title)), by rw [b2, c2]; exact run_part1 _ _ _ _ Tryd.underlying9 rfl, by rw [b2, c2]; exact run_part1 _ _ _ _ Tryd.underlying9 rfl, by rw [b2]; exact st _ _⟩, a3, ⟨Value.int .i64 (p.page), Value.int .i64 (q.page), by rw [b3, c3]; exact run_parti _ _ _ _ _ Tryd.underlying3 rfl, by rw [b3, c3]; exact run_parti _ _ _ _ _ Tryd.underlying3 rfl, by rw [b3]; exact si3 _ _⟩, trivial⟩
  rw [eqFields_run _ _ _ _ _ _ key]
  rfl
set_option maxRecDepth 100000 in
theorem eqAtHd (p q : Hd) (w : World) : (Op.equalIn 10000 77 (.agg #[.int .i64 p.level, .string (bs p.num), .string (bs p.title), .int .i64 p.page]) (.agg #[.int .i64 q.level, .string (bs q.num), .string (bs q.title), .int .i64 q.page])).run Tryd.prog w = .ok ([p.level == q.level, p.num == q.num, p.title == q.title, p.page == q.page].all id) w := by
  have h := eqHd p q w
  rw [run_eql_struct] at h
  generalize hr : (Op.equalIn 10000 77 (.agg #[.int .i64 p.level, .string (bs p.num), .string (bs p.title), .int .i64 p.page]) (.agg #[.int .i64 q.level, .string (bs q.num), .string (bs q.title), .int .i64 q.page])).run Tryd.prog w = r at *
  cases r with
  | ok x w2 => simp only [Result.andThen_ok] at h; injection h with h3 h4; injection h3 with h5; rw [h4, h5]
  | halt x w2 => simp [Result.andThen] at h
end Go.Proofs.YtjmmfihmamcopaaDoor
