/- '==' of notes, labels and headings. · stetref08.Notes; stetlaw10.Same. · stetlaw10.Ref. · stetlaw10.Same, of what is the same. -/
import Derived.Test.YtjmmfihmamcopaaGreatDoorNb2
import Derived.Test.YtjmmfihmamcopaaGreatDoorEqS
import Derived.Test.YtjmmfihmamcopaaGreatDoorWo
import Derived.Test.YtjmmfihmamcopaaGreatDoorIn
namespace Go.Proofs.YtjmmfihmamcopaaGreatDoor
open Go.RowKit Tx Nb

theorem run_parti (t : TypeId) (xs : Array Value) (o : Nat) (v : Value) (k : IntKind) (hs : Tryz.prog.underlying t = some (.int k)) (h : xs[o]? = some v) (w : World) : (part t xs o).run Tryz.prog w = .ok v w := by
  simp [part, isAgg, run_underlying hs, h]
theorem toListB' (x : Bs) : (bs x).toList = x := toList_bs x
theorem uNt : Tryz.prog.underlying 92 = some (.struct (Tryz.prog.fieldsOf 92)) := by kernel_rfl
theorem sNt : Tryz.prog.stoodInHeld 92 = false := by kernel_rfl
theorem gNt : Tryz.prog.eqGuardType Tryz.prog.depth 92 = false := by kernel_rfl
theorem fNt : (Tryz.prog.fieldsOf 92).toList.map (fun f => (f.name == "_", f.type, f.offset)) = [(false, 90, 0), (false, 9, 1)] := by kernel_rfl
set_option maxRecDepth 100000 in
theorem eqNt (p q : (Int × Bs)) (w : World) : (binOp .eql 92 (.agg #[.int .i64 p.1, .string (bs p.2)]) (.agg #[.int .i64 q.1, .string (bs q.2)])).run Tryz.prog w = .ok (.bool ([p.1 == q.1, p.2 == q.2].all id)) w := by
  rw [run_eql_struct, run_equalIn_struct w _ _ _ _ uNt sNt]
  have h := fNt
  generalize (Tryz.prog.fieldsOf 92).toList = fs at *
  have key : FieldsEq 9999 #[.int .i64 p.1, .string (bs p.2)] #[.int .i64 q.1, .string (bs q.2)] fs [p.1 == q.1, p.2 == q.2] := by
    rcases fs with _ | ⟨f0, _ | ⟨f1, _ | ⟨fx, r⟩⟩⟩
    all_goals simp only [List.map_cons, List.map_nil, List.cons.injEq, Prod.mk.injEq, and_true, reduceCtorEq, and_false] at h
    obtain ⟨⟨a0, b0, c0⟩, ⟨a1, b1, c1⟩⟩ := h
    simp only [beq_eq_false_iff_ne] at a0 a1
    have st : ∀ (x y : Bs) w, (Op.equalIn 9999 9 (.string (bs x)) (.string (bs y))).run Tryz.prog w = .ok (x == y) w := fun x y w => by
      rw [run_equalIn_string w 9998 _ _ _ Tryz.underlying9, toListB', toListB']
    have si0 : ∀ (x y : Int) w, (Op.equalIn 9999 90 (.int .i64 x) (.int .i64 y)).run Tryz.prog w = .ok (x == y) w := fun x y w => run_equalIn_int (w := w) 9998 _ _ _ x y Tryz.underlying90
    exact ⟨a0, ⟨Value.int .i64 (p.1), Value.int .i64 (q.1), by rw [b0, c0]; exact run_parti _ _ _ _ _ Tryz.underlying90 rfl, by rw [b0, c0]; exact run_parti _ _ _ _ _ Tryz.underlying90 rfl, by rw [b0]; exact si0 _ _⟩, a1, ⟨Value.string (bs (p.2)), Value.string (bs (q.2)), by rw [b1, c1]; exact run_part1 _ _ _ _ Tryz.underlying9 rfl, by rw [b1, c1]; exact run_part1 _ _ _ _ Tryz.underlying9 rfl, by rw [b1]; exact st _ _⟩, trivial⟩
  rw [eqFields_run _ _ _ _ _ _ key]
  rfl
set_option maxRecDepth 100000 in
theorem eqAtNt (p q : (Int × Bs)) (w : World) : (Op.equalIn 10000 92 (.agg #[.int .i64 p.1, .string (bs p.2)]) (.agg #[.int .i64 q.1, .string (bs q.2)])).run Tryz.prog w = .ok ([p.1 == q.1, p.2 == q.2].all id) w := by
  have h := eqNt p q w
  rw [run_eql_struct] at h
  generalize hr : (Op.equalIn 10000 92 (.agg #[.int .i64 p.1, .string (bs p.2)]) (.agg #[.int .i64 q.1, .string (bs q.2)])).run Tryz.prog w = r at *
  cases r with
  | ok x w2 => simp only [Result.andThen_ok] at h; injection h with h3 h4; injection h3 with h5; rw [h4, h5]
  | halt x w2 => simp [Result.andThen] at h
theorem uLb : Tryz.prog.underlying 85 = some (.struct (Tryz.prog.fieldsOf 85)) := by kernel_rfl
theorem sLb : Tryz.prog.stoodInHeld 85 = false := by kernel_rfl
theorem gLb : Tryz.prog.eqGuardType Tryz.prog.depth 85 = false := by kernel_rfl
theorem fLb : (Tryz.prog.fieldsOf 85).toList.map (fun f => (f.name == "_", f.type, f.offset)) = [(false, 9, 0), (false, 9, 1), (false, 3, 2)] := by kernel_rfl
set_option maxRecDepth 100000 in
theorem eqLb (p q : Lab) (w : World) : (binOp .eql 85 (.agg #[.string (bs p.key), .string (bs p.num), .int .i64 p.page]) (.agg #[.string (bs q.key), .string (bs q.num), .int .i64 q.page])).run Tryz.prog w = .ok (.bool ([p.key == q.key, p.num == q.num, p.page == q.page].all id)) w := by
  rw [run_eql_struct, run_equalIn_struct w _ _ _ _ uLb sLb]
  have h := fLb
  generalize (Tryz.prog.fieldsOf 85).toList = fs at *
  have key : FieldsEq 9999 #[.string (bs p.key), .string (bs p.num), .int .i64 p.page] #[.string (bs q.key), .string (bs q.num), .int .i64 q.page] fs [p.key == q.key, p.num == q.num, p.page == q.page] := by
    rcases fs with _ | ⟨f0, _ | ⟨f1, _ | ⟨f2, _ | ⟨fx, r⟩⟩⟩⟩
    all_goals simp only [List.map_cons, List.map_nil, List.cons.injEq, Prod.mk.injEq, and_true, reduceCtorEq, and_false] at h
    obtain ⟨⟨a0, b0, c0⟩, ⟨a1, b1, c1⟩, ⟨a2, b2, c2⟩⟩ := h
    simp only [beq_eq_false_iff_ne] at a0 a1 a2
    have st : ∀ (x y : Bs) w, (Op.equalIn 9999 9 (.string (bs x)) (.string (bs y))).run Tryz.prog w = .ok (x == y) w := fun x y w => by
      rw [run_equalIn_string w 9998 _ _ _ Tryz.underlying9, toListB', toListB']
    have si2 : ∀ (x y : Int) w, (Op.equalIn 9999 3 (.int .i64 x) (.int .i64 y)).run Tryz.prog w = .ok (x == y) w := fun x y w => run_equalIn_int (w := w) 9998 _ _ _ x y Tryz.underlying3
    exact ⟨a0, ⟨Value.string (bs (p.key)), Value.string (bs (q.key)), by rw [b0, c0]; exact run_part1 _ _ _ _ Tryz.underlying9 rfl, by rw [b0, c0]; exact run_part1 _ _ _ _ Tryz.underlying9 rfl, by rw [b0]; exact st _ _⟩, a1, ⟨Value.string (bs (p.num)), Value.string (bs (q.num)), by rw [b1, c1]; exact run_part1 _ _ _ _ Tryz.underlying9 rfl, by rw [b1, c1]; exact run_part1 _ _ _ _ Tryz.underlying9 rfl, by rw [b1]; exact st _ _⟩, a2, ⟨Value.int .i64 (p.page), Value.int .i64 (q.page), by rw [b2, c2]; exact run_parti _ _ _ _ _ Tryz.underlying3 rfl, by rw [b2, c2]; exact run_parti _ _ _ _ _ Tryz.underlying3 rfl, by rw [b2]; exact si2 _ _⟩, trivial⟩
  rw [eqFields_run _ _ _ _ _ _ key]
  rfl
set_option maxRecDepth 100000 in
theorem eqAtLb (p q : Lab) (w : World) : (Op.equalIn 10000 85 (.agg #[.string (bs p.key), .string (bs p.num), .int .i64 p.page]) (.agg #[.string (bs q.key), .string (bs q.num), .int .i64 q.page])).run Tryz.prog w = .ok ([p.key == q.key, p.num == q.num, p.page == q.page].all id) w := by
  have h := eqLb p q w
  rw [run_eql_struct] at h
  generalize hr : (Op.equalIn 10000 85 (.agg #[.string (bs p.key), .string (bs p.num), .int .i64 p.page]) (.agg #[.string (bs q.key), .string (bs q.num), .int .i64 q.page])).run Tryz.prog w = r at *
  cases r with
  | ok x w2 => simp only [Result.andThen_ok] at h; injection h with h3 h4; injection h3 with h5; rw [h4, h5]
  | halt x w2 => simp [Result.andThen] at h
theorem uHd : Tryz.prog.underlying 86 = some (.struct (Tryz.prog.fieldsOf 86)) := by kernel_rfl
theorem sHd : Tryz.prog.stoodInHeld 86 = false := by kernel_rfl
theorem gHd : Tryz.prog.eqGuardType Tryz.prog.depth 86 = false := by kernel_rfl
theorem fHd : (Tryz.prog.fieldsOf 86).toList.map (fun f => (f.name == "_", f.type, f.offset)) = [(false, 3, 0), (false, 9, 1), (false, 9, 2), (false, 3, 3)] := by kernel_rfl
set_option maxRecDepth 100000 in
theorem eqHd (p q : Hd) (w : World) : (binOp .eql 86 (.agg #[.int .i64 p.level, .string (bs p.num), .string (bs p.title), .int .i64 p.page]) (.agg #[.int .i64 q.level, .string (bs q.num), .string (bs q.title), .int .i64 q.page])).run Tryz.prog w = .ok (.bool ([p.level == q.level, p.num == q.num, p.title == q.title, p.page == q.page].all id)) w := by
  rw [run_eql_struct, run_equalIn_struct w _ _ _ _ uHd sHd]
  have h := fHd
  generalize (Tryz.prog.fieldsOf 86).toList = fs at *
  have key : FieldsEq 9999 #[.int .i64 p.level, .string (bs p.num), .string (bs p.title), .int .i64 p.page] #[.int .i64 q.level, .string (bs q.num), .string (bs q.title), .int .i64 q.page] fs [p.level == q.level, p.num == q.num, p.title == q.title, p.page == q.page] := by
    rcases fs with _ | ⟨f0, _ | ⟨f1, _ | ⟨f2, _ | ⟨f3, _ | ⟨fx, r⟩⟩⟩⟩⟩
    all_goals simp only [List.map_cons, List.map_nil, List.cons.injEq, Prod.mk.injEq, and_true, reduceCtorEq, and_false] at h
    obtain ⟨⟨a0, b0, c0⟩, ⟨a1, b1, c1⟩, ⟨a2, b2, c2⟩, ⟨a3, b3, c3⟩⟩ := h
    simp only [beq_eq_false_iff_ne] at a0 a1 a2 a3
    have st : ∀ (x y : Bs) w, (Op.equalIn 9999 9 (.string (bs x)) (.string (bs y))).run Tryz.prog w = .ok (x == y) w := fun x y w => by
      rw [run_equalIn_string w 9998 _ _ _ Tryz.underlying9, toListB', toListB']
    have si0 : ∀ (x y : Int) w, (Op.equalIn 9999 3 (.int .i64 x) (.int .i64 y)).run Tryz.prog w = .ok (x == y) w := fun x y w => run_equalIn_int (w := w) 9998 _ _ _ x y Tryz.underlying3
    have si3 : ∀ (x y : Int) w, (Op.equalIn 9999 3 (.int .i64 x) (.int .i64 y)).run Tryz.prog w = .ok (x == y) w := fun x y w => run_equalIn_int (w := w) 9998 _ _ _ x y Tryz.underlying3
    exact ⟨a0, ⟨Value.int .i64 (p.level), Value.int .i64 (q.level), by rw [b0, c0]; exact run_parti _ _ _ _ _ Tryz.underlying3 rfl, by rw [b0, c0]; exact run_parti _ _ _ _ _ Tryz.underlying3 rfl, by rw [b0]; exact si0 _ _⟩, a1, ⟨Value.string (bs (p.num)), Value.string (bs (q.num)), by rw [b1, c1]; exact run_part1 _ _ _ _ Tryz.underlying9 rfl, by rw [b1, c1]; exact run_part1 _ _ _ _ Tryz.underlying9 rfl, by rw [b1]; exact st _ _⟩, a2, ⟨Value.string (bs (p.title)), Value.string (bs (q.title)), by rw [b2, c2]; exact run_part1 _ _ _ _ Tryz.underlying9 rfl, by rw [b2, c2]; exact run_part1 _ _ _ _ Tryz.underlying9 rfl, by rw [b2]; exact st _ _⟩, a3, ⟨Value.int .i64 (p.page), Value.int .i64 (q.page), by rw [b3, c3]; exact run_parti _ _ _ _ _ Tryz.underlying3 rfl, by rw [b3, c3]; exact run_parti _ _ _ _ _ Tryz.underlying3 rfl, by rw [b3]; exact si3 _ _⟩, trivial⟩
  rw [eqFields_run _ _ _ _ _ _ key]
  rfl
set_option maxRecDepth 100000 in
theorem eqAtHd (p q : Hd) (w : World) : (Op.equalIn 10000 86 (.agg #[.int .i64 p.level, .string (bs p.num), .string (bs p.title), .int .i64 p.page]) (.agg #[.int .i64 q.level, .string (bs q.num), .string (bs q.title), .int .i64 q.page])).run Tryz.prog w = .ok ([p.level == q.level, p.num == q.num, p.title == q.title, p.page == q.page].all id) w := by
  have h := eqHd p q w
  rw [run_eql_struct] at h
  generalize hr : (Op.equalIn 10000 86 (.agg #[.int .i64 p.level, .string (bs p.num), .string (bs p.title), .int .i64 p.page]) (.agg #[.int .i64 q.level, .string (bs q.num), .string (bs q.title), .int .i64 q.page])).run Tryz.prog w = r at *
  cases r with
  | ok x w2 => simp only [Result.andThen_ok] at h; injection h with h3 h4; injection h3 with h5; rw [h4, h5]
  | halt x w2 => simp [Result.andThen] at h
end Go.Proofs.YtjmmfihmamcopaaGreatDoor
namespace Go.Proofs.YtjmmfihmamcopaaGreatDoor
open Go.RowKit Tx Nb

instance : DecidableEq Lab := fun a b => decidable_of_iff (a.key = b.key ∧ a.num = b.num ∧ a.page = b.page) (by cases a; cases b; simp)
instance : DecidableEq Hd := fun a b => decidable_of_iff (a.level = b.level ∧ a.num = b.num ∧ a.title = b.title ∧ a.page = b.page) (by cases a; cases b; simp)
theorem nt_all (p q : Int × Bs) : [p.1 == q.1, p.2 == q.2].all id = decide (p = q) := by
  obtain ⟨a, b⟩ := p
  obtain ⟨c, d⟩ := q
  by_cases h1 : a = c <;> by_cases h2 : b = d <;> simp [h1, h2]
theorem lb_all (p q : Lab) : [p.key == q.key, p.num == q.num, p.page == q.page].all id = decide (p = q) := by
  obtain ⟨a, b, c⟩ := p
  obtain ⟨x, y, z⟩ := q
  by_cases h1 : a = x <;> by_cases h2 : b = y <;> by_cases h3 : c = z <;> simp [h1, h2, h3]
theorem hd_all (p q : Hd) : [p.level == q.level, p.num == q.num, p.title == q.title, p.page == q.page].all id = decide (p = q) := by
  obtain ⟨a, b, c, d⟩ := p
  obtain ⟨x, y, z, u⟩ := q
  by_cases h1 : a = x <;> by_cases h2 : b = y <;> by_cases h3 : c = z <;> by_cases h4 : d = u <;> simp [h1, h2, h3, h4]
set_option maxRecDepth 100000 in
set_option maxHeartbeats 4000000 in
theorem rnotes_any {q : Bool} (v1 v2 : Value) (a b : List (Int × Bs)) (hq : q = true ↔ a = b) (w : World) (h1 : RowC 2 ntF w w.heap.size v1 a) (h2 : RowC 2 ntF w w.heap.size v2 b) (_hn : a.length < 1000000) (_hm : b.length < 1000000) :
    Calls Tryz.prog 21 #[v1, v2] w fun e w' => e = .returned (.bool q) ∧ ∃ n, w' = w.drewN n := by
  have HQ := Lib.hid hq
  have HNE : Hid (a ≠ b → q = false) := Lib.hid (fun h => by cases q with | false => rfl | true => exact absurd (hq.1 rfl) h)
  obtain ⟨A1, p1, rfl, _, _, z1⟩ := h1.shape
  obtain ⟨A2, p2, rfl, _, _, z2⟩ := h2.shape
  have Z1 := Lib.hid z1
  have Z2 := Lib.hid z2
  clear z1 z2 h1 h2 hq
  by_cases hl : a.length = b.length
  · have hl2 : ((a.length : Int) != (b.length : Int)) = false := by rw [hl]; simp
    have HL := Lib.hid hl
    clear hl
    go_enter Tryz.func21, Tryz.ntmps21
    go_wp2_with fail
    go_loopw [5] (fun i wr => ∃ j n : Nat, j ≤ a.length ∧ i = .int .i64 j ∧ a.take j = b.take j ∧ wr = w.drewN n) (fun i _ => a.length - (intOf i).toNat)
    case atStart => exact ⟨0, 0, Nat.zero_le _, rfl, rfl, rfl⟩
    case round =>
      obtain ⟨j, n2, hj, rfl, hjk, rfl⟩ := hrel
      have HJ := Lib.hid hjk
      clear hjk
      by_cases hjt : j < a.length
      · have hjt2 : j < b.length := by rw [← HL.out]; exact hjt
        obtain ⟨g3, o3, rfl, hg3, hc3⟩ := Z1.out (by intro e; rw [e] at hjt; simp at hjt)
        obtain ⟨g4, o4, rfl, hg4, hc4⟩ := Z2.out (by intro e; rw [e] at hjt2; simp at hjt2)
        have f1 : w.cell? ⟨g3, o3 + j * 2, none⟩ = some (.int .i64 a[j].1) := hc3 j hjt 0 _ rfl
        have f2 := hc3 j hjt 1 _ rfl
        have f3 : w.cell? ⟨g4, o4 + j * 2, none⟩ = some (.int .i64 b[j].1) := hc4 j hjt2 0 _ rfl
        have f4 := hc4 j hjt2 1 _ rfl
        have HC : Hid (a.take (j + 1) = a.take j ++ [a[j]]) := Lib.hid (List.take_succ_eq_append_getElem hjt)
        have HD : Hid (b.take (j + 1) = b.take j ++ [b[j]]) := Lib.hid (List.take_succ_eq_append_getElem hjt2)
        have HCX : Hid (a[j]? = some a[j]) := Lib.hid (List.getElem?_eq_getElem hjt)
        have HDX : Hid (b[j]? = some b[j]) := Lib.hid (List.getElem?_eq_getElem hjt2)
        clear hc3 hc4
        generalize a[j] = p at *
        generalize b[j] = s at *
        have m4 : (j : Int) < (a.length : Int) := by omega
        have m5 : (j : Int) < (b.length : Int) := by omega
        have m6 : (0 : Int) ≤ (j : Int) := by omega
        have heq := eqAtNt p s
        rw [nt_all] at heq
        by_cases hps : p = s
        · subst hps
          rw [show decide (p = p) = true by simp] at heq
          go_wp2_with fail
          go_quiet (fail)
          go_wp2_with fail
          go_roundw
          case rel => exact ⟨j + 1, _, by omega, by go_num, by rw [HC.out, HD.out, HJ.out], by first | rfl | exact World.drewN_drewN _ _ _⟩
          case measure => simp [intOf]; omega
        · rw [show decide (p = s) = false by simp [hps]] at heq
          have HNO : Hid (q = false) := Lib.hid (HNE.out fun e => by subst e; rw [HCX.out] at HDX; exact hps (Option.some.inj HDX.out))
          clear hps
          go_wp2_with fail
          go_quiet (fail)
          go_wp2_with fail
          go_ret
          exact ⟨by rw [HNO.out]; rfl, _, by first | rfl | exact World.drewN_drewN _ _ _⟩
      · obtain rfl : j = a.length := by omega
        have hqt : q = true := HQ.out.2 (by have h9 := HJ.out; rw [List.take_length, HL.out, List.take_length] at h9; exact h9)
        have hjb : ¬ (a.length : Int) < (a.length : Int) := by omega
        subst hqt
        go_wp2_with fail
        go_ret
        exact ⟨rfl, _, rfl⟩
  · have hl2 : ((a.length : Int) != (b.length : Int)) = true := by simp; omega
    have hqf := HNE.out (fun e => hl (by rw [e]))
    subst hqf
    clear hl
    go_enter Tryz.func21, Tryz.ntmps21
    go_wp2_with fail
    go_ret
    exact ⟨rfl, 0, rfl⟩
end Go.Proofs.YtjmmfihmamcopaaGreatDoor
namespace Go.Proofs.YtjmmfihmamcopaaGreatDoor
open Go.RowKit Tx Nb

theorem rlInfo : (Tryz.prog.info? 85).map (fun i => (i.zero, i.size, i.bytes)) = some (some (.agg #[.string ⟨#[]⟩, .string ⟨#[]⟩, .int .i64 0]), 3, 40) := by kernel_rfl
theorem rhInfo : (Tryz.prog.info? 86).map (fun i => (i.zero, i.size, i.bytes)) = some (some (.agg #[.int .i64 0, .string ⟨#[]⟩, .string ⟨#[]⟩, .int .i64 0]), 4, 48) := by kernel_rfl
theorem hdF_len (x : Hd) : (hdF x).length = 4 := rfl
set_option maxRecDepth 100000 in
set_option maxHeartbeats 16000000 in
theorem ref_any {w : World} (vl vh vC vB : Value) (l : List Lab) (h : List Hd) (hr1 : RowC 3 labF w w.heap.size vl l) (hr2 : RowC 4 hdF w w.heap.size vh h) (hn : l.length < 1000000) (hm : h.length < 1000000) (hC : ∃ A n c, vC = .slice A n c) (hB : ∃ A n c, vB = .slice A n c) :
    Calls Tryz.prog 13 #[.agg #[vl, vh, vC, vB]] w fun e w' => ∃ v1 v2, e = .returned (.agg #[v1, v2, vC, vB]) ∧ OwnC 85 3 labF w.heap.size w' v1 l ∧ OwnC 86 4 hdF w.heap.size w' v2 h ∧ Below w.heap.size w w' := by
  obtain ⟨A1, c1, rfl, _, _, z1⟩ := hr1.shape
  obtain ⟨A2, c2, rfl, _, _, z2⟩ := hr2.shape
  obtain ⟨A3, n3, c3, rfl⟩ := hC
  obtain ⟨A4, n4, c4, rfl⟩ := hB
  have HC1 := Lib.hid z1
  have HC2 := Lib.hid z2
  clear z1 z2 hr1 hr2
  obtain ⟨W, hW⟩ : ∃ W, W = ((w.alloc (.cells #[.slice A1 l.length c1, .slice A2 h.length c2, (.slice A3 n3 c3), (.slice A4 n4 c4)] 27)).alloc (.cells #[.slice none 0 0, .slice none 0 0, .slice none 0 0, .slice none 0 0] 46)).alloc (.cells #[.slice none 0 0, .slice none 0 0, (.slice A3 n3 c3), (.slice A4 n4 c4)] 46) := ⟨_, rfl⟩
  have g0 : W.heap[w.heap.size]? = some (.cells #[.slice A1 l.length c1, .slice A2 h.length c2, (.slice A3 n3 c3), (.slice A4 n4 c4)] 27) := by
    rw [hW, Below.heap_alloc _ _ _ (by simp; omega), Below.heap_alloc _ _ _ (by simp)]
    exact heap_alloc_new w _
  have g1 : W.heap[w.heap.size + 1]? = some (.cells #[.slice none 0 0, .slice none 0 0, .slice none 0 0, .slice none 0 0] 46) := by
    rw [hW, Below.heap_alloc _ _ _ (by simp)]
    have := heap_alloc_new (w.alloc (.cells #[.slice A1 l.length c1, .slice A2 h.length c2, (.slice A3 n3 c3), (.slice A4 n4 c4)] 27)) (.cells #[.slice none 0 0, .slice none 0 0, .slice none 0 0, .slice none 0 0] 46)
    simpa using this
  have g2 : W.heap[w.heap.size + 2]? = some (.cells #[.slice none 0 0, .slice none 0 0, (.slice A3 n3 c3), (.slice A4 n4 c4)] 46) := by
    rw [hW]
    have := heap_alloc_new ((w.alloc (.cells #[.slice A1 l.length c1, .slice A2 h.length c2, (.slice A3 n3 c3), (.slice A4 n4 c4)] 27)).alloc (.cells #[.slice none 0 0, .slice none 0 0, .slice none 0 0, .slice none 0 0] 46)) (.cells #[.slice none 0 0, .slice none 0 0, (.slice A3 n3 c3), (.slice A4 n4 c4)] 46)
    simpa using this
  have gb : Below w.heap.size w W := by rw [hW]; exact (((Below.refl _ _).alloc (Nat.le_refl _) _).alloc (by simp) _).alloc (by simp; omega) _
  have GG := Lib.hid (And.intro g0 (And.intro g1 (And.intro g2 gb)))
  have HW := Lib.hid hW
  clear g0 g1 g2 gb hW
  go_enter Tryz.func13, Tryz.ntmps13
  go_upto_block 0 with fail
  go_cut [4] (fun _i wr => ∃ (B1 : Option Addr) (n1 b1 : Nat), OwnC 85 3 labF (w.heap.size + 3) wr (.slice B1 n1 b1) l ∧ wr.heap[w.heap.size]? = some (.cells #[.slice A1 l.length c1, .slice A2 h.length c2, (.slice A3 n3 c3), (.slice A4 n4 c4)] 27 (0, 0)) ∧ wr.heap[w.heap.size + 1]? = some (.cells #[.slice none 0 0, .slice none 0 0, .slice none 0 0, .slice none 0 0] 46 (0, 0)) ∧ wr.heap[w.heap.size + 2]? = some (.cells #[(.slice B1 n1 b1), (.slice none 0 0), (.slice A3 n3 c3), (.slice A4 n4 c4)] 46 (0, 0)) ∧ Below w.heap.size w wr)
  case first =>
    rw [← HW.out]
    go_wp2_with fail
    go_loopw [4] (fun i wr => ∃ (j : Nat) (B1 : Option Addr) (n1 b1 : Nat), j ≤ l.length ∧ i = .int .i64 j ∧ OwnC 85 3 labF (w.heap.size + 3) wr (.slice B1 n1 b1) (l.take j) ∧ wr.heap[w.heap.size]? = some (.cells #[.slice A1 l.length c1, .slice A2 h.length c2, (.slice A3 n3 c3), (.slice A4 n4 c4)] 27 (0, 0)) ∧ wr.heap[w.heap.size + 1]? = some (.cells #[.slice none 0 0, .slice none 0 0, .slice none 0 0, .slice none 0 0] 46 (0, 0)) ∧ wr.heap[w.heap.size + 2]? = some (.cells #[(.slice B1 n1 b1), (.slice none 0 0), (.slice A3 n3 c3), (.slice A4 n4 c4)] 46 (0, 0)) ∧ Below w.heap.size w wr) (fun i _ => l.length - (RowKit.intOf i).toNat)
    case atStart => exact ⟨0, none, 0, 0, Nat.zero_le _, rfl, OwnC.nil _ _ _ _ _, GG.out⟩
    case round =>
      obtain ⟨j, B1, n1, b1, hj, rfl, hown, h0, h1, h2, hbel⟩ := hrel
      have HOWN := Lib.hid hown
      have HH0 := Lib.hid h0
      have HH1 := Lib.hid h1
      have HH2 := Lib.hid h2
      have HBEL := Lib.hid hbel

      have y0 : wr.cell? ⟨w.heap.size, 0, none⟩ = some (.slice A1 l.length c1) := by rw [Lib.cell_of_heap h0]; rfl
      by_cases hjt : j < l.length
      · have hi : (j : Int) < (l.length : Int) := by omega
        have hi0 : (0 : Int) ≤ (j : Int) := by omega
        obtain ⟨b, off, rfl, hbl, hc⟩ := HC1.out (by intro e; rw [e] at hjt; simp at hjt)
        have x0 : wr.cell? ⟨b, off + j * 3, none⟩ = some (vs l[j].key) := (hbel.cell (p := ⟨b, off + j * 3, none⟩) hbl).trans (hc j hjt 0 _ rfl)
        have x1 : wr.cell? ⟨b, off + j * 3 + 1, none⟩ = some (vs l[j].num) := (hbel.cell (p := ⟨b, off + j * 3 + 1, none⟩) hbl).trans (hc j hjt 1 _ rfl)
        have x2 : wr.cell? ⟨b, off + j * 3 + 2, none⟩ = some (.int .i64 l[j].page) := (hbel.cell (p := ⟨b, off + j * 3 + 2, none⟩) hbl).trans (hc j hjt 2 _ rfl)
        have HT : Hid (l.take (j + 1) = l.take j ++ [l[j]]) := Lib.hid (List.take_succ_eq_append_getElem hjt)
        have hlen : (l.take j).length < 1000000 := by simp; omega
        generalize l[j] = x at *
        obtain ⟨i0, hi0', hz0, hz1, hz2⟩ := info_parts rlInfo
        have y2 : (wr.alloc (.cells #[vs x.key, vs x.num, .int .i64 x.page] 63)).cell? ⟨w.heap.size + 1 + 1, 0, none⟩ = some (.slice B1 n1 b1) := by rw [Lib.cell_of_heap ((Below.heap_alloc _ _ _ (lt_of_block h2)).trans h2)]; rfl
        have y0' : (wr.alloc (.cells #[vs x.key, vs x.num, .int .i64 x.page] 63)).cell? ⟨w.heap.size, 0, none⟩ = some (.slice (some ⟨b, off, none⟩) l.length c1) := by rw [Lib.cell_of_heap ((Below.heap_alloc _ _ _ (lt_of_block h0)).trans h0)]; rfl
        have hbA : Below wr.heap.size wr (wr.alloc (.cells #[vs x.key, vs x.num, .int .i64 x.page] 63)) := (Below.refl _ _).alloc (Nat.le_refl _) _
        have HOA := Lib.hid (hown.below hbA)
        have HSZ : Hid (w.heap.size + 3 ≤ (wr.alloc (.cells #[vs x.key, vs x.num, .int .i64 x.page] 63)).heap.size) := Lib.hid (by have := lt_of_block h2; simp; omega)
        clear hc hown h0 h1 h2 hbel hbA hjt 
        go_wp2_with (at_builtin; refine wpList_appN (by rfl) (.tmp 26) (.tmp 34) 43 (by rfl) (w.heap.size + 3) 85 i0 _ 3 40 Tryz.underlying43 hi0' hz0 hz1 hz2 (by rfl) (by decide) (.slice B1 n1 b1) (l.take j).length ((l.take j).flatMap labF) (labF x) rfl (by simp [labF, Value.oneCell']) (by rfl) (wr.heap.size + 1) (by simp) (by rfl) HOA.out HSZ.out (by simp only [maxLen]; omega) (by omega) ?_; intro v' w' q1 q2 q3; obtain ⟨A', c', hv'⟩ := own_slice q1; obtain ⟨A', n', c', rfl⟩ : ∃ A n c, v' = .slice A n c := ⟨_, _, _, hv'⟩; clear hv'; have hk : ∀ k, k < wr.heap.size → k < w.heap.size + 3 → w'.heap[k]? = wr.heap[k]? := (fun k h1 h2 => (q2.block k (by simp; omega) (fun e => by have := (World.ownsRow.lt HOA.out k e.symm).1; omega)).trans (Below.heap_alloc _ _ _ h1)); have k2 := (hk _ (lt_of_block HH2.out) (by omega)).trans HH2.out; have z2 : w'.cell? ⟨w.heap.size + 1 + 1, 0, none⟩ = some (.slice B1 n1 b1) := (by rw [Lib.cell_of_heap k2]; rfl); have zf := Lib.frozen_of_heap k2 0; have HQ := Lib.hid (And.intro q1 (And.intro q2 (And.intro q3 (And.intro hk k2)))); clear q1 q2 q3 hk k2)
        go_roundw
        case rel =>
          obtain ⟨q1, q2, q3, hk, k2⟩ := HQ.out
          have hoth : ∀ k, k ≠ w.heap.size + 2 → (w'.setCell ⟨w.heap.size + 1 + 1, 0, none⟩ (.slice A' n' c')).heap[k]? = w'.heap[k]? := fun k hk => Below.heap_setCell _ _ _ _ hk
          refine ⟨j + 1, A', n', c', by omega, by go_num, ?_, ?_, ?_, ?_, ?_⟩
          · rw [HT.out]
            have h9 : OwnC 85 3 labF (w.heap.size + 3) w' (.slice A' n' c') (l.take j ++ [x]) := by simpa [OwnC] using q1
            exact h9.heap (fun k hk => hoth k (by have := (h9.lt k hk).1; omega))

          · rw [hoth _ (by omega)]; exact (hk _ (lt_of_block HH0.out) (by omega)).trans HH0.out
          · rw [hoth _ (by omega)]; exact (hk _ (lt_of_block HH1.out) (by omega)).trans HH1.out
          · exact cells_set (j := 0) k2 _
          · have h7 := lt_of_block HH2.out
            exact ((HBEL.out.alloc HBEL.out.size _).grown q2 (by simp; omega) (fun k hk => by have := (World.ownsRow.lt HOA.out k hk).1; omega)).setCell (p := ⟨w.heap.size + 1 + 1, 0, none⟩) (by show w.heap.size ≤ w.heap.size + 1 + 1; omega) _
        case measure => simp [RowKit.intOf]; omega
      · obtain rfl : j = l.length := by omega
        have hi : ¬ (l.length : Int) < (l.length : Int) := by omega
        have HEND := Lib.hid (show OwnC 85 3 labF (w.heap.size + 3) wr (.slice B1 n1 b1) l by rw [List.take_length] at hown; exact hown)
        clear hown h0 h1 h2 hbel
        go_wp2_with fail
        go_meet
        exact ⟨B1, n1, b1, HEND.out, HH0.out, HH1.out, HH2.out, HBEL.out⟩
  case rest =>
    obtain ⟨X1, m1, y1, hx, g0, g1, g2, gb⟩ := hcut
    have HXO := Lib.hid hx
    have GG2 := Lib.hid (And.intro g0 (And.intro g1 (And.intro g2 gb)))
    clear hx g0 g1 g2 gb GG HC1
    go_wp2_with fail
    go_loopw [6] (fun i wr => ∃ (j : Nat) (B1 : Option Addr) (n1 b1 : Nat), j ≤ h.length ∧ i = .int .i64 j ∧ OwnC 86 4 hdF (w.heap.size + 3) wr (.slice B1 n1 b1) (h.take j) ∧ OwnC 85 3 labF (w.heap.size + 3) wr (.slice X1 m1 y1) l ∧ (∀ k, (Value.slice X1 m1 y1).ownBlock = some k → (Value.slice B1 n1 b1).ownBlock ≠ some k) ∧ wr.heap[w.heap.size]? = some (.cells #[.slice A1 l.length c1, .slice A2 h.length c2, (.slice A3 n3 c3), (.slice A4 n4 c4)] 27 (0, 0)) ∧ wr.heap[w.heap.size + 1]? = some (.cells #[.slice none 0 0, .slice none 0 0, .slice none 0 0, .slice none 0 0] 46 (0, 0)) ∧ wr.heap[w.heap.size + 2]? = some (.cells #[(.slice X1 m1 y1), (.slice B1 n1 b1), (.slice A3 n3 c3), (.slice A4 n4 c4)] 46 (0, 0)) ∧ Below w.heap.size w wr) (fun i _ => h.length - (RowKit.intOf i).toNat)
    case atStart => exact ⟨0, none, 0, 0, Nat.zero_le _, rfl, OwnC.nil _ _ _ _ _, HXO.out, fun k _ e => (by cases e), GG2.out⟩
    case round =>
      obtain ⟨j, B1, n1, b1, hj, rfl, hown, hown1, hdis, h0, h1, h2, hbel⟩ := hrel
      have HOWN := Lib.hid hown
      have HH0 := Lib.hid h0
      have HH1 := Lib.hid h1
      have HH2 := Lib.hid h2
      have HBEL := Lib.hid hbel
      have HOWN1 := Lib.hid hown1; have HDIS := Lib.hid hdis
      have y0 : wr.cell? ⟨w.heap.size, 1, none⟩ = some (.slice A2 h.length c2) := by rw [Lib.cell_of_heap h0]; rfl
      by_cases hjt : j < h.length
      · have hi : (j : Int) < (h.length : Int) := by omega
        have hi0 : (0 : Int) ≤ (j : Int) := by omega
        obtain ⟨b, off, rfl, hbl, hc⟩ := HC2.out (by intro e; rw [e] at hjt; simp at hjt)
        have x0 : wr.cell? ⟨b, off + j * 4, none⟩ = some (.int .i64 h[j].level) := (hbel.cell (p := ⟨b, off + j * 4, none⟩) hbl).trans (hc j hjt 0 _ rfl)
        have x1 : wr.cell? ⟨b, off + j * 4 + 1, none⟩ = some (vs h[j].num) := (hbel.cell (p := ⟨b, off + j * 4 + 1, none⟩) hbl).trans (hc j hjt 1 _ rfl)
        have x2 : wr.cell? ⟨b, off + j * 4 + 2, none⟩ = some (vs h[j].title) := (hbel.cell (p := ⟨b, off + j * 4 + 2, none⟩) hbl).trans (hc j hjt 2 _ rfl)
        have x3 : wr.cell? ⟨b, off + j * 4 + 3, none⟩ = some (.int .i64 h[j].page) := (hbel.cell (p := ⟨b, off + j * 4 + 3, none⟩) hbl).trans (hc j hjt 3 _ rfl)
        have HT : Hid (h.take (j + 1) = h.take j ++ [h[j]]) := Lib.hid (List.take_succ_eq_append_getElem hjt)
        have hlen : (h.take j).length < 1000000 := by simp; omega
        generalize h[j] = x at *
        obtain ⟨i0, hi0', hz0, hz1, hz2⟩ := info_parts rhInfo
        have y2 : (wr.alloc (.cells #[.int .i64 x.level, vs x.num, vs x.title, .int .i64 x.page] 65)).cell? ⟨w.heap.size + 1 + 1, 1, none⟩ = some (.slice B1 n1 b1) := by rw [Lib.cell_of_heap ((Below.heap_alloc _ _ _ (lt_of_block h2)).trans h2)]; rfl
        have y0' : (wr.alloc (.cells #[.int .i64 x.level, vs x.num, vs x.title, .int .i64 x.page] 65)).cell? ⟨w.heap.size, 1, none⟩ = some (.slice (some ⟨b, off, none⟩) h.length c2) := by rw [Lib.cell_of_heap ((Below.heap_alloc _ _ _ (lt_of_block h0)).trans h0)]; rfl
        have hbA : Below wr.heap.size wr (wr.alloc (.cells #[.int .i64 x.level, vs x.num, vs x.title, .int .i64 x.page] 65)) := (Below.refl _ _).alloc (Nat.le_refl _) _
        have HOA := Lib.hid (hown.below hbA)
        have HSZ : Hid (w.heap.size + 3 ≤ (wr.alloc (.cells #[.int .i64 x.level, vs x.num, vs x.title, .int .i64 x.page] 65)).heap.size) := Lib.hid (by have := lt_of_block h2; simp; omega)
        clear hc hown h0 h1 h2 hbel hbA hjt hown1 hdis
        go_wp2_with (at_builtin; refine wpList_appN (by rfl) (.tmp 50) (.tmp 60) 44 (by rfl) (w.heap.size + 3) 86 i0 _ 4 48 Tryz.underlying44 hi0' hz0 hz1 hz2 (by rfl) (by decide) (.slice B1 n1 b1) (h.take j).length ((h.take j).flatMap hdF) (hdF x) rfl (by simp [hdF, Value.oneCell']) (by rfl) (wr.heap.size + 1) (by simp) (by rfl) HOA.out HSZ.out (by simp only [maxLen]; omega) (by omega) ?_; intro v' w' q1 q2 q3; obtain ⟨A', c', hv'⟩ := own_slice q1; obtain ⟨A', n', c', rfl⟩ : ∃ A n c, v' = .slice A n c := ⟨_, _, _, hv'⟩; clear hv'; have hk : ∀ k, k < wr.heap.size → k < w.heap.size + 3 → w'.heap[k]? = wr.heap[k]? := (fun k h1 h2 => (q2.block k (by simp; omega) (fun e => by have := (World.ownsRow.lt HOA.out k e.symm).1; omega)).trans (Below.heap_alloc _ _ _ h1)); have k2 := (hk _ (lt_of_block HH2.out) (by omega)).trans HH2.out; have z2 : w'.cell? ⟨w.heap.size + 1 + 1, 1, none⟩ = some (.slice B1 n1 b1) := (by rw [Lib.cell_of_heap k2]; rfl); have zf := Lib.frozen_of_heap k2 1; have HQ := Lib.hid (And.intro q1 (And.intro q2 (And.intro q3 (And.intro hk k2)))); clear q1 q2 q3 hk k2)
        go_roundw
        case rel =>
          obtain ⟨q1, q2, q3, hk, k2⟩ := HQ.out
          have hoth : ∀ k, k ≠ w.heap.size + 2 → (w'.setCell ⟨w.heap.size + 1 + 1, 1, none⟩ (.slice A' n' c')).heap[k]? = w'.heap[k]? := fun k hk => Below.heap_setCell _ _ _ _ hk
          refine ⟨j + 1, A', n', c', by omega, by go_num, ?_, ?_, ?_, ?_, ?_, ?_, ?_⟩
          · rw [HT.out]
            have h9 : OwnC 86 4 hdF (w.heap.size + 3) w' (.slice A' n' c') (h.take j ++ [x]) := by simpa [OwnC] using q1
            exact h9.heap (fun k hk => hoth k (by have := (h9.lt k hk).1; omega))
          · refine (HOWN1.out.below (Below.refl _ _)).heap (fun k hk => ?_)
            have h8 := HOWN1.out.lt k hk
            rw [hoth k (by omega)]
            refine (q2.block k (by simp; omega) (fun e => ?_)).trans (Below.heap_alloc _ _ _ h8.2)
            exact HDIS.out k hk e.symm
          · intro k hk1 hk2
            have h8 := HOWN1.out.lt k hk1
            rcases q3 k hk2 with h9 | h9
            · exact HDIS.out k hk1 h9
            · simp at h9; omega
          · rw [hoth _ (by omega)]; exact (hk _ (lt_of_block HH0.out) (by omega)).trans HH0.out
          · rw [hoth _ (by omega)]; exact (hk _ (lt_of_block HH1.out) (by omega)).trans HH1.out
          · exact cells_set (j := 1) k2 _
          · have h7 := lt_of_block HH2.out
            exact ((HBEL.out.alloc HBEL.out.size _).grown q2 (by simp; omega) (fun k hk => by have := (World.ownsRow.lt HOA.out k hk).1; omega)).setCell (p := ⟨w.heap.size + 1 + 1, 1, none⟩) (by show w.heap.size ≤ w.heap.size + 1 + 1; omega) _
        case measure => simp [RowKit.intOf]; omega
      · obtain rfl : j = h.length := by omega
        have hi : ¬ (h.length : Int) < (h.length : Int) := by omega
        have HEND := Lib.hid (show OwnC 86 4 hdF (w.heap.size + 3) wr (.slice B1 n1 b1) h by rw [List.take_length] at hown; exact hown)
        have u0 : wr.cell? ⟨w.heap.size + 1 + 1, 0, none⟩ = some (.slice X1 m1 y1) := by rw [Lib.cell_of_heap h2]; rfl
        have u1 : wr.cell? ⟨w.heap.size + 1 + 1, 1, none⟩ = some (.slice B1 n1 b1) := by rw [Lib.cell_of_heap h2]; rfl
        have u2 : wr.cell? ⟨w.heap.size + 1 + 1, 2, none⟩ = some (.slice A3 n3 c3) := by rw [Lib.cell_of_heap h2]; rfl
        have u3 : wr.cell? ⟨w.heap.size + 1 + 1, 3, none⟩ = some (.slice A4 n4 c4) := by rw [Lib.cell_of_heap h2]; rfl
        have d0 : wr.cell? ⟨w.heap.size + 1, 0, none⟩ = some (.slice none 0 0) := by rw [Lib.cell_of_heap h1]; rfl
        have d1 : wr.cell? ⟨w.heap.size + 1, 1, none⟩ = some (.slice none 0 0) := by rw [Lib.cell_of_heap h1]; rfl
        have d2 : wr.cell? ⟨w.heap.size + 1, 2, none⟩ = some (.slice none 0 0) := by rw [Lib.cell_of_heap h1]; rfl
        have d3 : wr.cell? ⟨w.heap.size + 1, 3, none⟩ = some (.slice none 0 0) := by rw [Lib.cell_of_heap h1]; rfl
        have f0 := Lib.frozen_of_heap h1 0
        have f1 := Lib.frozen_of_heap h1 1
        have f2 := Lib.frozen_of_heap h1 2
        have f3 := Lib.frozen_of_heap h1 3
        clear hown hown1 hdis h0 h1 h2 hbel
        go_wp2_with fail
        have a0 := cells_set (j := 0) HH1.out (.slice X1 m1 y1)
        have a1 := cells_set (j := 1) a0 (.slice B1 n1 b1)
        have a2 := cells_set (j := 2) a1 (.slice A3 n3 c3)
        have a3 := cells_set (j := 3) a2 (.slice A4 n4 c4)
        have e0 := Lib.cell_of_heap a3 0
        have e1 := Lib.cell_of_heap a3 1
        have e2 := Lib.cell_of_heap a3 2
        have e3 := Lib.cell_of_heap a3 3
        simp only [List.setIfInBounds_toArray, List.set_cons_zero, List.set_cons_succ, List.getElem?_toArray, List.getElem?_cons_succ, List.getElem?_cons_zero] at e0 e1 e2 e3
        have hoth : ∀ k, k ≠ w.heap.size + 1 → ((((wr.setCell ⟨w.heap.size + 1, 0, none⟩ (.slice X1 m1 y1)).setCell ⟨w.heap.size + 1, 1, none⟩ (.slice B1 n1 b1)).setCell ⟨w.heap.size + 1, 2, none⟩ (.slice A3 n3 c3)).setCell ⟨w.heap.size + 1, 3, none⟩ (.slice A4 n4 c4)).heap[k]? = wr.heap[k]? := fun k hk => by
          have hh : ∀ (w' : World) (i : Nat) (x : Value), (w'.setCell ⟨w.heap.size + 1, i, none⟩ x).heap[k]? = w'.heap[k]? := fun w' i x => Below.heap_setCell _ _ _ _ hk
          rw [hh, hh, hh, hh]
        refine bodyPost_ret (v := .agg #[.slice X1 m1 y1, .slice B1 n1 b1, .slice A3 n3 c3, .slice A4 n4 c4]) (by
          simp [results, Tryz.f13, go_sem, e0, e1, e2, e3]) rfl ⟨_, _, rfl, ?_, ?_, ?_⟩
        · exact (HOWN1.out.heap (fun k hk => hoth k (by have := (HOWN1.out.lt k hk).1; omega))).mono (by omega)
        · exact (HEND.out.heap (fun k hk => hoth k (by have := (HEND.out.lt k hk).1; omega))).mono (by omega)
        · exact (((HBEL.out.setCell (p := ⟨w.heap.size + 1, 0, none⟩) (by simp) _).setCell (p := ⟨w.heap.size + 1, 1, none⟩) (by simp) _).setCell (p := ⟨w.heap.size + 1, 2, none⟩) (by simp) _).setCell (p := ⟨w.heap.size + 1, 3, none⟩) (by simp) _
end Go.Proofs.YtjmmfihmamcopaaGreatDoor
namespace Go.Proofs.YtjmmfihmamcopaaGreatDoor
open Go.RowKit Tx Nb

theorem rows_bs {w : World} {B : Nat} {v : Value} {l : List Bs} (h : RowC 1 txF w B v l) : Row vs w B v l := h.row
set_option maxRecDepth 100000 in
set_option maxHeartbeats 16000000 in
theorem same_any {w : World} (a1 a2 a3 a4 b1 b2 b3 b4 : Value) (l : List Lab) (h : List Hd) (c b : List Bs) (ha1 : RowC 3 labF w w.heap.size a1 l) (ha2 : RowC 4 hdF w w.heap.size a2 h) (ha3 : RowC 1 txF w w.heap.size a3 c) (ha4 : RowC 1 txF w w.heap.size a4 b)
    (hb1 : RowC 3 labF w w.heap.size b1 l) (hb2 : RowC 4 hdF w w.heap.size b2 h) (hb3 : RowC 1 txF w w.heap.size b3 c) (hb4 : RowC 1 txF w w.heap.size b4 b) (_n1 : l.length < 1000000) (_n2 : h.length < 1000000) (n3 : c.length < 1000000) (n4 : b.length < 1000000) :
    Calls Tryz.prog 18 #[.agg #[a1, a2, a3, a4], .agg #[b1, b2, b3, b4]] w fun e w' => e = .returned (.bool true) ∧ Below w.heap.size w w' := by
  obtain ⟨A1, c1, rfl, -⟩ := ha1.shape
  obtain ⟨A2, c2, rfl, -⟩ := ha2.shape
  obtain ⟨A3, c3, rfl, -⟩ := ha3.shape
  obtain ⟨A4, c4, rfl, -⟩ := ha4.shape
  obtain ⟨B1, d1, rfl, -⟩ := hb1.shape
  obtain ⟨B2, d2, rfl, -⟩ := hb2.shape
  obtain ⟨B3, d3, rfl, -⟩ := hb3.shape
  obtain ⟨B4, d4, rfl, -⟩ := hb4.shape
  obtain ⟨W, hW⟩ : ∃ W, W = (w.alloc (.cells #[.slice A1 l.length c1, .slice A2 h.length c2, .slice A3 c.length c3, .slice A4 b.length c4] 46)).alloc (.cells #[.slice B1 l.length d1, .slice B2 h.length d2, .slice B3 c.length d3, .slice B4 b.length d4] 46) := ⟨_, rfl⟩
  have hbW : Below w.heap.size w W := by rw [hW]; exact ((Below.refl _ _).alloc (Nat.le_refl _) _).alloc (by simp) _
  have g0 : W.heap[w.heap.size]? = some (.cells #[.slice A1 l.length c1, .slice A2 h.length c2, .slice A3 c.length c3, .slice A4 b.length c4] 46 (0, 0)) := by
    rw [hW, Below.heap_alloc _ _ _ (by simp)]
    exact heap_alloc_new w _
  have g1 : W.heap[w.heap.size + 1]? = some (.cells #[.slice B1 l.length d1, .slice B2 h.length d2, .slice B3 c.length d3, .slice B4 b.length d4] 46 (0, 0)) := by
    rw [hW]
    have := heap_alloc_new (w.alloc (.cells #[.slice A1 l.length c1, .slice A2 h.length c2, .slice A3 c.length c3, .slice A4 b.length c4] 46)) (.cells #[.slice B1 l.length d1, .slice B2 h.length d2, .slice B3 c.length d3, .slice B4 b.length d4] 46)
    simpa using this
  have e0 : W.cell? ⟨w.heap.size, 0, none⟩ = some (.slice A1 l.length c1) := by rw [Lib.cell_of_heap g0]; rfl
  have e1 : W.cell? ⟨w.heap.size, 1, none⟩ = some (.slice A2 h.length c2) := by rw [Lib.cell_of_heap g0]; rfl
  have e2 : W.cell? ⟨w.heap.size, 2, none⟩ = some (.slice A3 c.length c3) := by rw [Lib.cell_of_heap g0]; rfl
  have e3 : W.cell? ⟨w.heap.size, 3, none⟩ = some (.slice A4 b.length c4) := by rw [Lib.cell_of_heap g0]; rfl
  have e4 : W.cell? ⟨w.heap.size + 1, 0, none⟩ = some (.slice B1 l.length d1) := by rw [Lib.cell_of_heap g1]; rfl
  have e5 : W.cell? ⟨w.heap.size + 1, 1, none⟩ = some (.slice B2 h.length d2) := by rw [Lib.cell_of_heap g1]; rfl
  have e6 : W.cell? ⟨w.heap.size + 1, 2, none⟩ = some (.slice B3 c.length d3) := by rw [Lib.cell_of_heap g1]; rfl
  have e7 : W.cell? ⟨w.heap.size + 1, 3, none⟩ = some (.slice B4 b.length d4) := by rw [Lib.cell_of_heap g1]; rfl
  obtain ⟨_, _, qe, _, _, z1⟩ := (ha1.step hbW).shape
  injection qe with q1 q2 q3; subst q1 q3
  obtain ⟨_, _, qe, _, _, z2⟩ := (hb1.step hbW).shape
  injection qe with q1 q2 q3; subst q1 q3
  obtain ⟨_, _, qe, _, _, z3⟩ := (ha2.step hbW).shape
  injection qe with q1 q2 q3; subst q1 q3
  obtain ⟨_, _, qe, _, _, z4⟩ := (hb2.step hbW).shape
  injection qe with q1 q2 q3; subst q1 q3
  have Z1 := Lib.hid z1
  have Z2 := Lib.hid z2
  have Y1 := Lib.hid z3
  have Y2 := Lib.hid z4
  have HW1 := Lib.hid (fun n => words2_any _ _ c c (W.drewN n) (rows_bs ((ha3.step hbW).step (below_of_drewN n))) (rows_bs ((hb3.step hbW).step (below_of_drewN n))) n3 n3)
  have HW2 := Lib.hid (fun n => words2_any _ _ b b (W.drewN n) (rows_bs ((ha4.step hbW).step (below_of_drewN n))) (rows_bs ((hb4.step hbW).step (below_of_drewN n))) n4 n4)
  have HBW := Lib.hid hbW
  have HWW := Lib.hid hW
  have hl2 : ((l.length : Int) != (l.length : Int)) = false := by simp
  have hh2 : ((h.length : Int) != (h.length : Int)) = false := by simp
  rw [show decide (c = c) = true by simp] at HW1
  rw [show decide (b = b) = true by simp] at HW2
  clear z1 z2 z3 z4 ha1 ha2 ha3 ha4 hb1 hb2 hb3 hb4 g0 g1 hbW
  rw [hW] at e0 e1 e2 e3 e4 e5 e6 e7
  clear hW
  go_enter Tryz.func18, Tryz.ntmps18
  go_upto_block 0 with fail
  rw [← HWW.out] at e0 e1 e2 e3 e4 e5 e6 e7 ⊢
  go_cut [5] (fun _i wx => ∃ n, wx = W.drewN n)
  case first =>
    go_wp2_with fail
    go_loopw [5] (fun i wr => ∃ j n : Nat, j ≤ l.length ∧ i = .int .i64 j ∧ wr = W.drewN n) (fun i _ => l.length - (intOf i).toNat)
    case atStart => exact ⟨0, 0, Nat.zero_le _, rfl, rfl⟩
    case round =>
      obtain ⟨j, n2, hj, rfl, rfl⟩ := hrel
      by_cases hjt : j < l.length
      · obtain ⟨g3, o3, rfl, hg3, hc3⟩ := Z1.out (by intro e; rw [e] at hjt; simp at hjt)
        obtain ⟨g4, o4, rfl, hg4, hc4⟩ := Z2.out (by intro e; rw [e] at hjt; simp at hjt)
        have x0 : W.cell? ⟨g3, o3 + j * 3, none⟩ = some (vs l[j].key) := hc3 j hjt 0 _ rfl
        have y0 : W.cell? ⟨g4, o4 + j * 3, none⟩ = some (vs l[j].key) := hc4 j hjt 0 _ rfl
        have x1 : W.cell? ⟨g3, o3 + j * 3 + 1, none⟩ = some (vs l[j].num) := hc3 j hjt 1 _ rfl
        have y1 : W.cell? ⟨g4, o4 + j * 3 + 1, none⟩ = some (vs l[j].num) := hc4 j hjt 1 _ rfl
        have x2 : W.cell? ⟨g3, o3 + j * 3 + 2, none⟩ = some (.int .i64 l[j].page) := hc3 j hjt 2 _ rfl
        have y2 : W.cell? ⟨g4, o4 + j * 3 + 2, none⟩ = some (.int .i64 l[j].page) := hc4 j hjt 2 _ rfl
        clear hc3 hc4
        generalize l[j] = p at *
        have m4 : (j : Int) < (l.length : Int) := by omega
        have m6 : (0 : Int) ≤ (j : Int) := by omega
        have heq := eqAtLb p p
        rw [lb_all, show decide (p = p) = true by simp] at heq
        go_wp2_with fail
        go_quiet (fail)
        go_wp2_with fail
        go_roundw
        case rel => exact ⟨j + 1, _, by omega, by go_num, by first | rfl | exact World.drewN_drewN _ _ _⟩
        case measure => simp [intOf]; omega
      · obtain rfl : j = l.length := by omega
        have hjb : ¬ (l.length : Int) < (l.length : Int) := by omega
        go_wp2_with fail
        go_meet
        exact ⟨_, rfl⟩
  case rest =>
    obtain ⟨n, rfl⟩ := hcut
    go_upto_block 2 with fail
    go_cut [6] (fun _i wx => ∃ n, wx = W.drewN n)
    case first =>
      go_wp2_with fail
      go_loopw [6] (fun i wr => ∃ j n : Nat, j ≤ h.length ∧ i = .int .i64 j ∧ wr = W.drewN n) (fun i _ => h.length - (intOf i).toNat)
      case atStart => exact ⟨0, n, Nat.zero_le _, rfl, rfl⟩
      case round =>
        obtain ⟨j, n2, hj, rfl, rfl⟩ := hrel
        by_cases hjt : j < h.length
        · obtain ⟨g3, o3, rfl, hg3, hc3⟩ := Y1.out (by intro e; rw [e] at hjt; simp at hjt)
          obtain ⟨g4, o4, rfl, hg4, hc4⟩ := Y2.out (by intro e; rw [e] at hjt; simp at hjt)
          have x0 : W.cell? ⟨g3, o3 + j * 4, none⟩ = some (.int .i64 h[j].level) := hc3 j hjt 0 _ rfl
          have y0 : W.cell? ⟨g4, o4 + j * 4, none⟩ = some (.int .i64 h[j].level) := hc4 j hjt 0 _ rfl
          have x1 : W.cell? ⟨g3, o3 + j * 4 + 1, none⟩ = some (vs h[j].num) := hc3 j hjt 1 _ rfl
          have y1 : W.cell? ⟨g4, o4 + j * 4 + 1, none⟩ = some (vs h[j].num) := hc4 j hjt 1 _ rfl
          have x2 : W.cell? ⟨g3, o3 + j * 4 + 2, none⟩ = some (vs h[j].title) := hc3 j hjt 2 _ rfl
          have y2 : W.cell? ⟨g4, o4 + j * 4 + 2, none⟩ = some (vs h[j].title) := hc4 j hjt 2 _ rfl
          have x3 : W.cell? ⟨g3, o3 + j * 4 + 3, none⟩ = some (.int .i64 h[j].page) := hc3 j hjt 3 _ rfl
          have y3 : W.cell? ⟨g4, o4 + j * 4 + 3, none⟩ = some (.int .i64 h[j].page) := hc4 j hjt 3 _ rfl
          clear hc3 hc4
          generalize h[j] = p at *
          have m4 : (j : Int) < (h.length : Int) := by omega
          have m6 : (0 : Int) ≤ (j : Int) := by omega
          have heq := eqAtHd p p
          rw [hd_all, show decide (p = p) = true by simp] at heq
          go_wp2_with fail
          go_quiet (fail)
          go_wp2_with fail
          go_roundw
          case rel => exact ⟨j + 1, _, by omega, by go_num, by first | rfl | exact World.drewN_drewN _ _ _⟩
          case measure => simp [intOf]; omega
        · obtain rfl : j = h.length := by omega
          have hjb : ¬ (h.length : Int) < (h.length : Int) := by omega
          go_wp2_with fail
          go_meet
          exact ⟨_, rfl⟩
    case rest =>
      obtain ⟨n2, rfl⟩ := hcut
      clear hl2 hh2
      go_wp2_with fail
      refine (HW1.out n2).mono ?_
      rintro e w1 ⟨rfl, k1, rfl⟩
      rw [World.drewN_drewN]
      go_wp2_with fail
      refine (HW2.out (n2 + k1)).mono ?_
      rintro e w2 ⟨rfl, k2, rfl⟩
      go_wp2_with fail
      go_ret
      exact ⟨rfl, HBW.out.trans (below_of_drewN (n2 + k1 + k2))⟩
end Go.Proofs.YtjmmfihmamcopaaGreatDoor
