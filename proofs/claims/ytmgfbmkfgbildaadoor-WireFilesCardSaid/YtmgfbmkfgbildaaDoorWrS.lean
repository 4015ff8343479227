/- '==' of files; stetlaw03.same. -/
import Derived.Test.YtmgfbmkfgbildaaDoorWrF2
import Derived.Test.YtmgfbmkfgbildaaDoorEqS
import Derived.Test.YtmgfbmkfgbildaaDoorTxs
namespace Go.Proofs.YtmgfbmkfgbildaaDoor
open Go.RowKit Tx

theorem fUnder : Tryd.prog.underlying 51 = some (.struct (Tryd.prog.fieldsOf 51)) := by kernel_rfl
theorem fStood : Tryd.prog.stoodInHeld 51 = false := by kernel_rfl
theorem fGuard : Tryd.prog.eqGuardType Tryd.prog.depth 51 = false := by kernel_rfl
theorem fFields : (Tryd.prog.fieldsOf 51).toList.map (fun f => (f.name == "_", f.type, f.offset)) = [(false, 9, 0), (false, 9, 1)] := by kernel_rfl
def eqF (p q : Wr.F) : Bool := p.1 == q.1 && p.2 == q.2
theorem eqF_self (p : Wr.F) : eqF p p = true := by simp [eqF]
theorem eqF_ne (p q : Wr.F) (h : p ≠ q) : eqF p q = false := by
  cases hc : eqF p q with
  | false => rfl
  | true =>
    simp only [eqF, Bool.and_eq_true, beq_iff_eq] at hc
    exact absurd (Prod.ext hc.1 hc.2) h
set_option maxRecDepth 100000 in
theorem eq_file (p q : Wr.F) (w : World) : (binOp .eql 51 (.agg #[.string (bs p.1), .string (bs p.2)]) (.agg #[.string (bs q.1), .string (bs q.2)])).run Tryd.prog w = .ok (.bool (eqF p q)) w := by
  rw [run_eql_struct, run_equalIn_struct w _ _ _ _ fUnder fStood]
  have h := fFields
  generalize (Tryd.prog.fieldsOf 51).toList = fs at *
  have key : FieldsEq 9999 #[.string (bs p.1), .string (bs p.2)] #[.string (bs q.1), .string (bs q.2)] fs [p.1 == q.1, p.2 == q.2] := by
    rcases fs with _ | ⟨a, _ | ⟨b, _ | ⟨c, r⟩⟩⟩
    all_goals simp only [List.map_cons, List.map_nil, List.cons.injEq, Prod.mk.injEq, and_true, reduceCtorEq, and_false] at h
    obtain ⟨⟨a1, a2, a3⟩, ⟨b1, b2, b3⟩⟩ := h
    simp only [beq_eq_false_iff_ne] at a1 b1
    have st : ∀ (x y : Bs) w, (Op.equalIn 9999 9 (.string (bs x)) (.string (bs y))).run Tryd.prog w = .ok (x == y) w := fun x y w => by
      rw [run_equalIn_string w 9998 _ _ _ Tryd.underlying9, toListB, toListB]
    refine ⟨a1, ⟨.string (bs p.1), .string (bs q.1), ?_, ?_, ?_⟩, b1, ⟨.string (bs p.2), .string (bs q.2), ?_, ?_, ?_⟩, trivial⟩
    all_goals (try rw [a2]); (try rw [a3]); (try rw [b2]); (try rw [b3])
    all_goals (first | exact st _ _ | exact run_part1 _ _ _ _ Tryd.underlying9 rfl)
  rw [eqFields_run _ _ _ _ _ _ key]
  simp [eqF]
set_option maxRecDepth 100000 in
theorem eqAtF (p q : Wr.F) (w : World) : (Op.equalIn 10000 51 (.agg #[.string (bs p.1), .string (bs p.2)]) (.agg #[.string (bs q.1), .string (bs q.2)])).run Tryd.prog w = .ok (eqF p q) w := by
  have h := eq_file p q w
  rw [run_eql_struct] at h
  generalize hr : (Op.equalIn 10000 51 (.agg #[.string (bs p.1), .string (bs p.2)]) (.agg #[.string (bs q.1), .string (bs q.2)])).run Tryd.prog w = r at *
  cases r with
  | ok x w2 => simp only [Result.andThen_ok] at h; injection h with h3 h4; injection h3 with h5; rw [h4, h5]
  | halt x w2 => simp [Result.andThen] at h

set_option maxHeartbeats 2000000 in
theorem same_any (v1 v2 : Value) (a b : List Wr.F) (w : World) (h1 : RowC 2 ff w w.heap.size v1 a) (h2 : RowC 2 ff w w.heap.size v2 b) (hn : a.length < 1000000) (hm : b.length < 1000000) :
    Calls Tryd.prog 18 #[v1, v2] w fun e w' => e = .returned (.bool (decide (a = b))) ∧ ∃ n, w' = w.drewN n := by
  obtain ⟨A1, c1, rfl, p1, p2, p3⟩ := h1.shape
  obtain ⟨A2, c2, rfl, q1, q2, q3⟩ := h2.shape
  have P3 := Lib.hid p3
  have Q3 := Lib.hid q3
  have hgu := fGuard
  clear p3 q3 h1 h2
  by_cases hl : a.length = b.length
  · have hle : (a.length : Int) = (b.length : Int) := by omega
    have hne : ((a.length : Int) != (b.length : Int)) = false := by rw [hle]; simp
    have HL := Lib.hid hl
    clear hl hle
    go_enter Tryd.func18, Tryd.ntmps18
    go_wp2_with fail
    go_loopw [5] (fun i wr => ∃ k n : Nat, k ≤ a.length ∧ i = .int .i64 k ∧ a.take k = b.take k ∧ wr = w.drewN n) (fun i _ => a.length - (intOf i).toNat)
    case atStart => exact ⟨0, 0, Nat.zero_le _, rfl, rfl, rfl⟩
    case round =>
      obtain ⟨k, n, hk, rfl, htk, rfl⟩ := hrel
      have HT := Lib.hid htk
      clear htk
      by_cases hlt : k < a.length
      · have hltb : k < b.length := by rw [← HL.out]; exact hlt
        obtain ⟨g1, o1, rfl, hg1, hc1⟩ := P3.out (by rintro rfl; simp at hlt)
        obtain ⟨g2, o2, rfl, hg2, hc2⟩ := Q3.out (by rintro rfl; simp at hltb)
        obtain ⟨k1, k2⟩ := ff_cells (fun i u hu => hc1 k hlt i u hu)
        obtain ⟨k3, k4⟩ := ff_cells (fun i u hu => hc2 k hltb i u hu)
        have i1 : (k : Int) < (a.length : Int) := by omega
        have i2 : (k : Int) < (b.length : Int) := by omega
        have i3 : (0 : Int) ≤ (k : Int) := by omega
        have HA : Hid (a.take (k + 1) = a.take k ++ [a[k]]) := Lib.hid (List.take_succ_eq_append_getElem hlt)
        have HB : Hid (b.take (k + 1) = b.take k ++ [b[k]]) := Lib.hid (List.take_succ_eq_append_getElem hltb)
        have HAX : Hid (a[k]? = some a[k]) := Lib.hid (List.getElem?_eq_getElem hlt)
        have HBX : Hid (b[k]? = some b[k]) := Lib.hid (List.getElem?_eq_getElem hltb)
        clear hc1 hc2
        generalize a[k] = x at *
        generalize b[k] = y at *
        have heq := eqAtF x y
        by_cases hxy : x = y
        · subst hxy
          rw [eqF_self] at heq
          go_wp2_with fail
          go_quiet (fail)
          go_wp2_with fail
          go_roundw
          case rel => exact ⟨k + 1, _, by omega, by go_num, by rw [HA.out, HB.out, HT.out], by first | rfl | exact World.drewN_drewN _ _ _⟩
          case measure => simp [intOf]; omega
        · have HNE : Hid (decide (a = b) = false) := by
            show _ = _
            rw [decide_eq_false_iff_not]
            rintro rfl
            have := HAX.out
            rw [HBX.out] at this
            injection this with this
            exact hxy this.symm
          rw [eqF_ne x y hxy] at heq
          clear hxy
          go_wp2_with fail
          go_quiet (fail)
          go_wp2_with fail
          go_ret
          exact ⟨ret_bool HNE.out.symm, _, by first | rfl | exact World.drewN_drewN _ _ _⟩
      · obtain rfl : k = a.length := by omega
        have HE : Hid (decide (a = b) = true) := by
          show _ = _
          have h := HT.out
          rw [List.take_length, List.take_of_length_le (by rw [HL.out]; exact Nat.le_refl _)] at h
          exact decide_eq_true h
        go_wp2_with fail
        go_ret
        exact ⟨ret_bool HE.out.symm, n, rfl⟩
  · have hne : ((a.length : Int) != (b.length : Int)) = true := by simp; omega
    have HE : Hid (decide (a = b) = false) := by
      show _ = _
      rw [decide_eq_false_iff_not]
      rintro rfl
      exact hl rfl
    clear hl
    go_enter Tryd.func18, Tryd.ntmps18
    go_wp2_with fail
    go_ret
    exact ⟨ret_bool HE.out.symm, 0, rfl⟩
end Go.Proofs.YtmgfbmkfgbildaaDoor
