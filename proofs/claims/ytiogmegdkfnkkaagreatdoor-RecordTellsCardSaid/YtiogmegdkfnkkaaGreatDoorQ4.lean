/- stetref20.Seens. · wire.number: errors.As at an error of wire's own, which wraps an api.Errno, and at no error. · errors.As at an error of wire's own; wire.number. · wire.length, wire.get, wire.Get: what they answer. · wire.get, wire.Get. · wire.All. -/
import Derived.Test.YtiogmegdkfnkkaaGreatDoorQ3
import Derived.Test.YtiogmegdkfnkkaaGreatDoorRows
import Derived.Test.YtiogmegdkfnkkaaGreatDoorQ1
import Derived.LaidEql
import Derived.Stop.Asserts
import Derived.RowKitTokens
namespace Go.Proofs.YtiogmegdkfnkkaaGreatDoor
open Go.RowKit Tx

set_option maxHeartbeats 2000000 in
theorem seens_any (v1 v2 : Value) (a b : List Rc.Seen) (w : World) (h1 : RowC 3 sf w w.heap.size v1 a) (h2 : RowC 3 sf w w.heap.size v2 b) (hn : a.length < 1000000) (hm : b.length < 1000000) :
    Calls Tryz.prog 25 #[v1, v2] w fun e w' => e = .returned (.bool (decide (a = b))) ∧ ∃ n, w' = w.drewN n := by
  obtain ⟨A1, c1, rfl, p1, p2, p3⟩ := h1.shape
  obtain ⟨A2, c2, rfl, q1, q2, q3⟩ := h2.shape
  have P3 := Lib.hid p3
  have Q3 := Lib.hid q3
  have hgu := snG
  clear p3 q3 h1 h2
  by_cases hl : a.length = b.length
  · have hle : (a.length : Int) = (b.length : Int) := by omega
    have hne : ((a.length : Int) != (b.length : Int)) = false := by rw [hle]; simp
    have HL := Lib.hid hl
    clear hl hle
    go_enter Tryz.func25, Tryz.ntmps25
    go_wp2_with fail
    go_loopw [5] (fun i wr => ∃ k n : Nat, k ≤ a.length ∧ i = .int .i64 k ∧ a.take k = b.take k ∧ wr = w.drewN n) (fun i _ => a.length - (RowKit.intOf i).toNat)
    case atStart => exact ⟨0, 0, Nat.zero_le _, rfl, rfl, rfl⟩
    case round =>
      obtain ⟨k, n, hk, rfl, htk, rfl⟩ := hrel
      have HT := Lib.hid htk
      clear htk
      by_cases hlt : k < a.length
      · have hltb : k < b.length := by rw [← HL.out]; exact hlt
        obtain ⟨g1, o1, rfl, hg1, hc1⟩ := P3.out (by rintro rfl; simp at hlt)
        obtain ⟨g2, o2, rfl, hg2, hc2⟩ := Q3.out (by rintro rfl; simp at hltb)
        obtain ⟨k1, k2, k5⟩ := sf_cells (fun i u hu => hc1 k hlt i u hu)
        obtain ⟨k3, k4, k6⟩ := sf_cells (fun i u hu => hc2 k hltb i u hu)
        have i1 : (k : Int) < (a.length : Int) := by omega
        have i2 : (k : Int) < (b.length : Int) := by omega
        have i3 : (0 : Int) ≤ (k : Int) := by omega
        have HA : Hid (a.take (k + 1) = a.take k ++ [a[k]]) := Lib.hid (List.take_succ_eq_append_getElem hlt)
        have HB : Hid (b.take (k + 1) = b.take k ++ [b[k]]) := Lib.hid (List.take_succ_eq_append_getElem hltb)
        have HAX : Hid (a[k]? = some a[k]) := Lib.hid (List.getElem?_eq_getElem hlt)
        have HBX : Hid (b[k]? = some b[k]) := Lib.hid (List.getElem?_eq_getElem hltb)
        clear hc1 hc2
        generalize a[k] = x at *
        generalize b[k] = y at *
        have heq := eq_seenAt x y
        by_cases hxy : x = y
        · subst hxy
          rw [decide_eq_true rfl] at heq
          go_wp2_with fail
          go_quiet (fail)
          go_wp2_with fail
          go_roundw
          case rel => exact ⟨k + 1, _, by omega, by go_num, by rw [HA.out, HB.out, HT.out], by first | rfl | exact World.drewN_drewN _ _ _⟩
          case measure => simp [RowKit.intOf]; omega
        · have HNE : Hid (decide (a = b) = false) := by
            show _ = _
            rw [decide_eq_false_iff_not]
            rintro rfl
            have := HAX.out
            rw [HBX.out] at this
            injection this with this
            exact hxy this.symm
          rw [decide_eq_false hxy] at heq
          clear hxy
          go_wp2_with fail
          go_quiet (fail)
          go_wp2_with fail
          go_ret
          exact ⟨ret_bool HNE.out.symm, _, by first | rfl | exact World.drewN_drewN _ _ _⟩
      · obtain rfl : k = a.length := by omega
        have HE : Hid (decide (a = b) = true) := by
          show _ = _
          have h := HT.out
          rw [List.take_length, List.take_of_length_le (by rw [HL.out]; exact Nat.le_refl _)] at h
          exact decide_eq_true h
        go_wp2_with fail
        go_ret
        exact ⟨ret_bool HE.out.symm, n, rfl⟩
  · have hne : ((a.length : Int) != (b.length : Int)) = true := by simp; omega
    have HE : Hid (decide (a = b) = false) := by
      show _ = _
      rw [decide_eq_false_iff_not]
      rintro rfl
      exact hl rfl
    clear hl
    go_enter Tryz.func25, Tryz.ntmps25
    go_wp2_with fail
    go_ret
    exact ⟨ret_bool HE.out.symm, 0, rfl⟩
end Go.Proofs.YtiogmegdkfnkkaaGreatDoor
namespace Go.Proofs.YtiogmegdkfnkkaaGreatDoor
open Go.RowKit Go.Extern.Stop Go.Stop Go.Extern

theorem rlm (z : Sem Value) (f : TypeId → Addr → Nat → Nat → Sem Value) (v : Value) :
    ReflectliteValue.method z f #[v] = (do match ← ReflectliteValue.parts v with | none => z | some (t, a, fl) => f t a fl (fl % 32)) := rfl
theorem rls (v x : Value) : ReflectliteValue.set #[v, x] = (do
    let (some (dst, a, fl), some (src, b, _)) := (← ReflectliteValue.parts v, ← ReflectliteValue.parts x)
      | unsupported (.noEntry "extern/(internal/reflectlite.Value).Set.zeroValue")
    if fl / ReflectliteValue.flagAddr % 2 == 0 then unsupported (.noEntry "extern/(internal/reflectlite.Value).Set.unaddressable")
    let val ← loadVar src b
    if ← Rtype.directlyAssignable dst src then storeVar dst a val
    else if ← Rtype.implements dst src then
      if (← Rtype.kind src) == 20 then
        match val with
        | .nilIface => unsupported (.noEntry "extern/reflectlite: a nil value of one interface type handed on as a value of another")
        | _ => storeVar dst a val
      else storeVar dst a (.iface src val)
    else panicString ("reflectlite.Set: value of type " ++ (← Rtype.spelt src) ++ " is not assignable to type " ++ (← Rtype.spelt dst))
    pure (.tuple #[])) := rfl

theorem valueOfP (t : Addr) (w : World) : (ReflectliteValue.unpack (.iface 128 (.pointer (some t)))).run Tryz.prog w
    = .ok (.agg #[.pointer (some ⟨5, 128, none⟩), .pointer (some ⟨w.heap.size, 0, none⟩), .int .u64 150]) (w.alloc (.cells #[.pointer (some t)] 128)) := by kernel_rfl
theorem typeP (a : Addr) (w : World) : (ReflectliteValue.methodAny (ReflectliteValue.valueError "reflectlite.Value.Type" 0) (fun t _ _ _ => ReflectliteType.toType t) #[.agg #[.pointer (some ⟨5, 128, none⟩), .pointer (some a), .int .u64 150]]).run Tryz.prog w
    = .ok (.iface 150 (.agg #[.pointer (some ⟨5, 128, none⟩)])) w := by kernel_rfl
theorem mKind (h : Value) (w : World) : (Go.method 292 150 (.agg #[h]) "Kind").run Tryz.prog w = .ok (104, h) w := by kernel_rfl
theorem mElem (h : Value) (w : World) : (Go.method 292 150 (.agg #[h]) "Elem").run Tryz.prog w = .ok (117, .agg #[h]) w := by kernel_rfl
theorem mImplements (h : Value) (w : World) : (Go.method 292 150 (.agg #[h]) "Implements").run Tryz.prog w = .ok (118, .agg #[h]) w := by kernel_rfl
theorem mAssignable (h : Value) (w : World) : (Go.method 292 150 (.agg #[h]) "AssignableTo").run Tryz.prog w = .ok (115, .agg #[h]) w := by kernel_rfl
theorem mUnwrap (v : Value) (w : World) : (Go.method 292 122 v "Unwrap").run Tryz.prog w = .ok (110, v) w := by kernel_rfl
theorem kindP (w : World) : ((ReflectliteType.abiMethod fun t => (fun a : Nat => Value.int IntKind.u8 (a : Int)) <$> Rtype.kind t) #[.pointer (some ⟨5, 128, none⟩)]).run Tryz.prog w = .ok (.int .u8 22) w := by kernel_rfl
theorem kindE (w : World) : ((ReflectliteType.abiMethod fun t => (fun a : Nat => Value.int IntKind.u8 (a : Int)) <$> Rtype.kind t) #[.pointer (some ⟨5, 24, none⟩)]).run Tryz.prog w = .ok (.int .u8 2) w := by kernel_rfl
theorem partsP (a : Addr) (w : World) : (ReflectliteValue.parts (.agg #[.pointer (some ⟨5, 128, none⟩), .pointer (some a), .int .u64 150])).run Tryz.prog w = .ok (some (128, a, 150)) w := by kernel_rfl
theorem isNilP (a p : Addr) (W : World) (ha : W.cell? a = some (.pointer (some p))) :
    (ReflectliteValue.method (ReflectliteValue.valueError "reflectlite.Value.IsNil" 0) ReflectliteValue.isNil #[.agg #[.pointer (some ⟨5, 128, none⟩), .pointer (some a), .int .u64 150]]).run Tryz.prog W = .ok (.bool false) W := by
  rw [rlm]
  simp only [Sem.run_bind, partsP, Result.andThen]
  simp [ReflectliteValue.isNil, loadVar, isAgg, underlying, Tryz.underlying128, ha, Result.andThen]
theorem elemP (w : World) : (ReflectliteType.method ReflectliteType.elem #[.agg #[.pointer (some ⟨5, 128, none⟩)]]).run Tryz.prog w = .ok (.iface 150 (.agg #[.pointer (some ⟨5, 24, none⟩)])) w := by kernel_rfl
theorem implementsE (w : World) : (ReflectliteType.relation "Implements" ReflectliteType.implements_ #[.agg #[.pointer (some ⟨5, 24, none⟩)], .iface 150 (.agg #[.pointer (some ⟨5, 93, none⟩)])]).run Tryz.prog w = .ok (.bool true) w := by kernel_rfl
theorem typeOfW (v : Value) (w : World) : (ReflectliteType.typeOf #[.iface 122 v]).run Tryz.prog w = .ok (.iface 150 (.agg #[.pointer (some ⟨5, 122, none⟩)])) w := by kernel_rfl
theorem typeOfE (v : Value) (w : World) : (ReflectliteType.typeOf #[.iface 24 v]).run Tryz.prog w = .ok (.iface 150 (.agg #[.pointer (some ⟨5, 24, none⟩)])) w := by kernel_rfl
theorem assignableW (w : World) : (ReflectliteType.relation "AssignableTo" ReflectliteType.assignableTo #[.agg #[.pointer (some ⟨5, 122, none⟩)], .iface 150 (.agg #[.pointer (some ⟨5, 24, none⟩)])]).run Tryz.prog w = .ok (.bool false) w := by kernel_rfl
theorem assignableE (w : World) : (ReflectliteType.relation "AssignableTo" ReflectliteType.assignableTo #[.agg #[.pointer (some ⟨5, 24, none⟩)], .iface 150 (.agg #[.pointer (some ⟨5, 24, none⟩)])]).run Tryz.prog w = .ok (.bool true) w := by kernel_rfl
theorem valueOfE (x : Int) (w : World) : (ReflectliteValue.unpack (.iface 24 (.int .i64 x))).run Tryz.prog w
    = .ok (.agg #[.pointer (some ⟨5, 24, none⟩), .pointer (some ⟨w.heap.size, 0, none⟩), .int .u64 130]) (w.alloc (.cells #[.int .i64 x] 24)) := by kernel_rfl
theorem noAsW (v : Value) (xT : TypeId) (w : World) : (Instr.typeAssert (.iface 122 v) xT 155 true).run Tryz.prog w = .ok (.tuple #[.nilIface, .bool false]) w := run_typeAssert_lacksB Tryz.underlying155 (by kernel_rfl) (by kernel_rfl) v xT w
theorem unwrapW (v : Value) (xT : TypeId) (w : World) : (Instr.typeAssert (.iface 122 v) xT 158 true).run Tryz.prog w = .ok (.tuple #[.iface 122 v, .bool true]) w := run_typeAssert_hasB Tryz.underlying158 (by kernel_rfl) v xT w
theorem elemOfP (w : World) : (Rtype.elem? 128).run Tryz.prog w = .ok (some 24) w := by kernel_rfl
theorem mkE (p : Addr) (w : World) : (ReflectliteValue.mk 24 p ReflectliteValue.flagAddr).run Tryz.prog w = .ok (.agg #[.pointer (some ⟨5, 24, none⟩), .pointer (some p), .int .u64 386]) w := by kernel_rfl
theorem elemVP (a p : Addr) (W : World) (ha : W.cell? a = some (.pointer (some p))) :
    (ReflectliteValue.method (ReflectliteValue.valueError "reflectlite.Value.Elem" 0) ReflectliteValue.elem #[.agg #[.pointer (some ⟨5, 128, none⟩), .pointer (some a), .int .u64 150]]).run Tryz.prog W
      = .ok (.agg #[.pointer (some ⟨5, 24, none⟩), .pointer (some p), .int .u64 386]) W := by
  rw [rlm]
  simp only [Sem.run_bind, partsP, Result.andThen]
  simp [ReflectliteValue.elem, loadVar, isAgg, underlying, Tryz.underlying128, ha, Result.andThen, elemOfP, mkE]
theorem partsEa (a : Addr) (w : World) : (ReflectliteValue.parts (.agg #[.pointer (some ⟨5, 24, none⟩), .pointer (some a), .int .u64 386])).run Tryz.prog w = .ok (some (24, a, 386)) w := by kernel_rfl
theorem partsE (a : Addr) (w : World) : (ReflectliteValue.parts (.agg #[.pointer (some ⟨5, 24, none⟩), .pointer (some a), .int .u64 130])).run Tryz.prog w = .ok (some (24, a, 130)) w := by kernel_rfl
theorem directE (w : World) : (Rtype.directlyAssignable 24 24).run Tryz.prog w = .ok true w := by kernel_rfl
theorem setE (ta b : Addr) (x : Int) (old : Value) (W : World) (hb : W.cell? b = some (.int .i64 x)) (ht : W.cell? ta = some old) (hf : W.frozen? ta = false) :
    (ReflectliteValue.set #[.agg #[.pointer (some ⟨5, 24, none⟩), .pointer (some ta), .int .u64 386], .agg #[.pointer (some ⟨5, 24, none⟩), .pointer (some b), .int .u64 130]]).run Tryz.prog W
      = .ok (.tuple #[]) (W.setCell ta (.int .i64 x)) := by
  rw [rls]
  simp only [Sem.run_bind, partsEa, partsE, Result.andThen]
  simp [ReflectliteValue.flagAddr, loadVar, isAgg, underlying, Tryz.underlying24, hb, Result.andThen, directE, storeVar, Value.cells, storeCells, Addr.add]
  rw [run_store Tryz.prog W ta _ _ (by rfl)]
  simp [ht, hf]
end Go.Proofs.YtiogmegdkfnkkaaGreatDoor
namespace Go.Proofs.YtiogmegdkfnkkaaGreatDoor
open Go.RowKit Go.Extern.Stop Go.Stop Go.Extern

/-- The variable errors.errorType. -/
abbrev ErrT (w : World) : Prop := w.cell? ⟨1, 0, none⟩ = some (.iface 150 (.agg #[.pointer (some ⟨5, 93, none⟩)]))

set_option maxRecDepth 100000 in
set_option maxHeartbeats 4000000 in
theorem as_any (g : Nat) (t : Addr) (x : Int) (old : Value) (w : World) (hg : ErrT w) (hc : w.cell? ⟨g, 1, none⟩ = some (.int .i64 x)) (ht0 : w.cell? t = some old) (hf0 : w.frozen? t = false) :
    Calls Tryz.prog 71 #[.iface 122 (.pointer (some ⟨g, 0, none⟩)), .iface 128 (.pointer (some t))] w fun ev w' => ev = .returned (.bool true) ∧ w' = ((((w.alloc (.cells #[.pointer (some t)] 128)).alloc (.cells #[.pointer (some ⟨5, 128, none⟩), .pointer (some ⟨w.heap.size, 0, none⟩), .int .u64 150] 139)).alloc (.cells #[.pointer (some ⟨5, 128, none⟩), .pointer (some ⟨w.heap.size, 0, none⟩), .int .u64 150] 139)).alloc (.cells #[.int .i64 x] 24)).setCell t (.int .i64 x) := by
  have h6 := @run_callFunc_extern Tryz.prog 79 _ (fun args => ReflectliteValue.unpack (args.getD 0 (.tuple #[]))) Tryz.func79 (by kernel_rfl) (by kernel_rfl) (by kernel_rfl) (by kernel_rfl)
  have h7 := @run_callFunc_extern Tryz.prog 80 _ (ReflectliteValue.methodAny (ReflectliteValue.valueError "reflectlite.Value.Type" 0) (fun t _ _ _ => ReflectliteType.toType t)) Tryz.func80 (by kernel_rfl) (by kernel_rfl) (by kernel_rfl) (by kernel_rfl)
  have h8 := @run_callFunc_extern Tryz.prog 81 _ (ReflectliteValue.method (ReflectliteValue.valueError "reflectlite.Value.IsNil" 0) ReflectliteValue.isNil) Tryz.func81 (by kernel_rfl) (by kernel_rfl) (by kernel_rfl) (by kernel_rfl)
  have h27 := @run_callFunc_extern Tryz.prog 104 _ (ReflectliteType.abiMethod fun t => do pure (.int .u8 (← Rtype.kind t))) Tryz.func104 (by kernel_rfl) (by kernel_rfl) (by kernel_rfl) (by kernel_rfl)
  have h37 := @run_callFunc_extern Tryz.prog 117 _ (ReflectliteType.method ReflectliteType.elem) Tryz.func117 (by kernel_rfl) (by kernel_rfl) (by kernel_rfl) (by kernel_rfl)
  have h38 := @run_callFunc_extern Tryz.prog 118 _ (ReflectliteType.relation "Implements" ReflectliteType.implements_) Tryz.func118 (by kernel_rfl) (by kernel_rfl) (by kernel_rfl) (by kernel_rfl)
  have h10 := @run_callFunc_extern Tryz.prog 87 _ ReflectliteType.typeOf Tryz.func87 (by kernel_rfl) (by kernel_rfl) (by kernel_rfl) (by kernel_rfl)
  have h35 := @run_callFunc_extern Tryz.prog 115 _ (ReflectliteType.relation "AssignableTo" ReflectliteType.assignableTo) Tryz.func115 (by kernel_rfl) (by kernel_rfl) (by kernel_rfl) (by kernel_rfl)
  have h11 := @run_callFunc_extern Tryz.prog 88 _ (ReflectliteValue.method (ReflectliteValue.valueError "reflectlite.Value.Elem" 0) ReflectliteValue.elem) Tryz.func88 (by kernel_rfl) (by kernel_rfl) (by kernel_rfl) (by kernel_rfl)
  have h12 := @run_callFunc_extern Tryz.prog 89 _ ReflectliteValue.set Tryz.func89 (by kernel_rfl) (by kernel_rfl) (by kernel_rfl) (by kernel_rfl)
  have tW := typeOfW
  have tE := typeOfE
  have mA := mAssignable
  have aW := assignableW
  have aE := assignableE
  have vE := valueOfE
  have f6 := valueOfP
  have f7 := typeP
  have mK := mKind
  have mE := mElem
  have mI := mImplements
  have mU := mUnwrap
  have kP := kindP
  have kE := kindE
  have eP := elemP
  have iE := implementsE
  have nA := noAsW
  have uW := unwrapW
  have n8 := isNilP ⟨w.heap.size, 0, none⟩ t ((w.alloc (.cells #[.pointer (some t)] 128)).alloc (.cells #[.pointer (some ⟨5, 128, none⟩), .pointer (some ⟨w.heap.size, 0, none⟩), .int .u64 150] 139)) (by simp)
  have hlt : 1 < w.heap.size := by
    have := World.block_lt_of_cell? w ⟨1, 0, none⟩ (by rw [hg])
    exact this
  have hgl : g < w.heap.size := World.block_lt_of_cell? w ⟨g, 1, none⟩ (by rw [hc])
  have htl : t.block < w.heap.size := World.block_lt_of_cell? w t (by rw [ht0])
  have hg2 : ((w.alloc (.cells #[.pointer (some t)] 128)).alloc (.cells #[.pointer (some ⟨5, 128, none⟩), .pointer (some ⟨w.heap.size, 0, none⟩), .int .u64 150] 139)).cell? ⟨1, 0, none⟩ = some (.iface 150 (.agg #[.pointer (some ⟨5, 93, none⟩)])) := by
    rw [World.cell?_alloc_lt _ _ ⟨1, 0, none⟩ (by simp; try omega), World.cell?_alloc_lt _ _ ⟨1, 0, none⟩ hlt]; exact hg
  have hc3 : (((w.alloc (.cells #[.pointer (some t)] 128)).alloc (.cells #[.pointer (some ⟨5, 128, none⟩), .pointer (some ⟨w.heap.size, 0, none⟩), .int .u64 150] 139)).alloc (.cells #[.pointer (some ⟨5, 128, none⟩), .pointer (some ⟨w.heap.size, 0, none⟩), .int .u64 150] 139)).cell? ⟨g, 1, none⟩ = some (.int .i64 x) := by
    rw [World.cell?_alloc_lt _ _ ⟨g, 1, none⟩ (by simp; omega), World.cell?_alloc_lt _ _ ⟨g, 1, none⟩ (by simp; omega), World.cell?_alloc_lt _ _ ⟨g, 1, none⟩ hgl]; exact hc
  have el := elemVP ⟨w.heap.size, 0, none⟩ t (((w.alloc (.cells #[.pointer (some t)] 128)).alloc (.cells #[.pointer (some ⟨5, 128, none⟩), .pointer (some ⟨w.heap.size, 0, none⟩), .int .u64 150] 139)).alloc (.cells #[.pointer (some ⟨5, 128, none⟩), .pointer (some ⟨w.heap.size, 0, none⟩), .int .u64 150] 139)) (by rw [World.cell?_alloc_lt _ _ ⟨w.heap.size, 0, none⟩ (by simp; omega)]; simp)
  have st := setE t ⟨w.heap.size + 1 + 1 + 1, 0, none⟩ x old ((((w.alloc (.cells #[.pointer (some t)] 128)).alloc (.cells #[.pointer (some ⟨5, 128, none⟩), .pointer (some ⟨w.heap.size, 0, none⟩), .int .u64 150] 139)).alloc (.cells #[.pointer (some ⟨5, 128, none⟩), .pointer (some ⟨w.heap.size, 0, none⟩), .int .u64 150] 139)).alloc (.cells #[.int .i64 x] 24))
    (by rw [World.cell?_alloc_at _ _ _ _ (by simp)]; rfl)
    (by rw [World.cell?_alloc_lt _ _ t (by simp; omega), World.cell?_alloc_lt _ _ t (by simp; omega), World.cell?_alloc_lt _ _ t (by simp; omega), World.cell?_alloc_lt _ _ t htl]; exact ht0)
    (by rw [World.frozen?_alloc_old _ _ t (by simp; omega), World.frozen?_alloc_old _ _ t (by simp; omega), World.frozen?_alloc_old _ _ t (by simp; omega), World.frozen?_alloc_old _ _ t (Nat.ne_of_lt htl)]; exact hf0)
  clear hg hc ht0 hf0
  go_enter Tryz.func71, Tryz.ntmps71
  go_wp2
  refine wp_loop_rounds 2 ?_
  rw [rounds_succ]
  go_wp2
  rw [rounds_succ]
  go_wp2
  go_ret
  exact ⟨rfl, rfl⟩

/-- An error of wire's own, with its number. -/
def ErrV (w : World) (v : Value) (x : Nat) : Prop := ∃ g : Nat, v = .iface 122 (.pointer (some ⟨g, 0, none⟩)) ∧ w.cell? ⟨g, 1, none⟩ = some (.int .i64 x)
theorem ErrV.below {w w' : World} {v : Value} {x : Nat} (h : ErrV w v x) (hb : Below w.heap.size w w') : ErrV w' v x := by
  obtain ⟨g, hv, hc⟩ := h
  have := World.block_lt_of_cell? w ⟨g, 1, none⟩ (by rw [hc])
  exact ⟨g, hv, (hb.cell (p := ⟨g, 1, none⟩) this).trans hc⟩
set_option maxRecDepth 100000 in
set_option maxHeartbeats 4000000 in
theorem number_any (v : Value) (x : Nat) (w : World) (hg : ErrT w) (hv : ErrV w v x) :
    Calls Tryz.prog 59 #[v] w fun e w' => e = .returned (.int .i64 x) ∧ Below w.heap.size w w' := by
  obtain ⟨g, rfl, hc⟩ := hv
  have hlt : 1 < w.heap.size := World.block_lt_of_cell? w ⟨1, 0, none⟩ (by rw [hg])
  have hgl : g < w.heap.size := World.block_lt_of_cell? w ⟨g, 1, none⟩ (by rw [hc])
  have hgA : ErrT (w.alloc (.cells #[.int .i64 0] 24)) := (World.cell?_alloc_lt _ _ ⟨1, 0, none⟩ hlt).trans hg
  have hcA : (w.alloc (.cells #[.int .i64 0] 24)).cell? ⟨g, 1, none⟩ = some (.int .i64 x) := (World.cell?_alloc_lt _ _ ⟨g, 1, none⟩ hgl).trans hc
  have HA := Lib.hid (as_any g ⟨w.heap.size, 0, none⟩ x (.int .i64 0) (w.alloc (.cells #[.int .i64 0] 24)) hgA hcA (by simp) (by simp))
  clear hg hc hgA hcA
  go_enter Tryz.func59, Tryz.ntmps59
  go_wp2_with fail
  refine HA.out.mono ?_
  rintro e w1 ⟨rfl, rfl⟩
  go_wp2_with fail
  go_ret
  exact ⟨rfl, ((((((Below.refl _ _).alloc (Nat.le_refl _) _).alloc (by simp) _).alloc (by simp; omega) _).alloc (by simp; omega) _).alloc (by simp; omega) _)⟩
end Go.Proofs.YtiogmegdkfnkkaaGreatDoor
namespace Go.Proofs.YtiogmegdkfnkkaaGreatDoor
open Go.RowKit Go.Lib Go.Sort Tx

theorem len_at (s : Bs) (p k m : Nat) (h : p < s.length) : Wr.len (s.drop p) k m =
    if s[p].toNat = 58 ∧ 0 < k then .ok (m, s.drop (p + 1))
    else if s[p].toNat < 48 ∨ 57 < s[p].toNat ∨ (0 < k ∧ m = 0) then .error 5
    else if 999999 < m * 10 + (s[p].toNat - 48) then .error 3
    else Wr.len (s.drop (p + 1)) (k + 1) (m * 10 + (s[p].toNat - 48)) := by
  rw [List.drop_eq_getElem_cons h, Wr.len]
theorem len_done (s : Bs) (k m : Nat) : Wr.len (s.drop s.length) k m = .error 6 := by rw [List.drop_length]; rfl

def LenPost (s : Bs) (a : Nat) (w : World) (e : Ending) (w' : World) : Prop :=
  Below w.heap.size w w' ∧ ((∃ n q : Nat, Wr.len (s.drop a) 0 0 = .ok (n, s.drop q) ∧ n ≤ 999999 ∧ a < q ∧ q ≤ s.length ∧ e = .returned (.tuple #[.int .i64 n, .int .i64 q, .nilIface])) ∨
    (∃ (x : Nat) (v : Value), Wr.len (s.drop a) 0 0 = .error x ∧ e = .returned (.tuple #[.int .i64 0, .int .i64 0, v]) ∧ ErrV w' v x))
theorem errV_new (w : World) (i : Int) (x : Nat) : ErrV (w.alloc (.cells #[.int .i64 i, .int .i64 x] 124)) (.iface 122 (.pointer (some ⟨w.heap.size, 0, none⟩))) x :=
  ⟨w.heap.size, rfl, by rw [cell_of_row _ w.heap.size 1 _ 124 (0, 0) (heap_alloc_new w _)]; rfl⟩
theorem LenPost.err {s : Bs} {a : Nat} {w w' : World} {i : Int} {x : Nat} (h : Wr.len (s.drop a) 0 0 = .error x) (hb : Below w.heap.size w w') (hs : w.heap.size ≤ w'.heap.size) :
    LenPost s a w (.returned (.tuple #[.int .i64 0, .int .i64 0, .iface 122 (.pointer (some ⟨w'.heap.size, 0, none⟩))])) (w'.alloc (.cells #[.int .i64 i, .int .i64 x] 124)) :=
  ⟨hb.alloc hs _, .inr ⟨x, _, h, rfl, errV_new w' i x⟩⟩

set_option maxHeartbeats 4000000 in
theorem length_any (s : Bs) (a : Nat) (w : World) (h : a ≤ s.length) (hs : s.length ≤ maxLen) :
    Calls Tryz.prog 70 #[vs s, .int .i64 a] w (LenPost s a w) := by
  have hz := bs_size s
  simp only [maxLen] at hs
  go_enter Tryz.func70, Tryz.ntmps70
  go_wp2_with fail
  go_loop [7, 8] (fun n i => ∃ p m : Nat, a ≤ p ∧ p ≤ s.length ∧ i = .int .i64 p ∧ n = .int .i64 m ∧ m ≤ 999999 ∧ Wr.len (s.drop a) 0 0 = Wr.len (s.drop p) (p - a) m) (fun _ i => s.length - (RowKit.intOf i).toNat)
  case atStart => exact ⟨a, 0, Nat.le_refl _, h, rfl, rfl, by omega, by rw [Nat.sub_self]⟩
  case round =>
    obtain ⟨p, m, hap, hps, rfl, rfl, hm, hl⟩ := hrel
    by_cases hlt : p < s.length
    · rw [len_at s p (p - a) m hlt] at hl
      have hpb : p < (bs s).size := by omega
      have hpi : (p : Int) < ((bs s).size : Int) := by omega
      have hgb : (bs s)[p]'hpb = s[p] := rfl
      have hcb : s[p].toNat < 256 := s[p].toNat_lt
      generalize s[p] = c at *
      obtain ⟨x, hx⟩ : ∃ x, x = c.toNat := ⟨_, rfl⟩
      rw [← hx] at hl hcb
      have HX := Lib.hid hx
      have hgx : ((c.toNat : Nat) : Int) = (x : Int) := by rw [hx]
      clear hx
      by_cases h1 : x = 58 ∧ a < p
      · obtain ⟨rfl, h2⟩ := h1
        rw [if_pos ⟨rfl, by omega⟩] at hl
        have HL := Lib.hid hl
        have h2' : (a : Int) < (p : Int) := by omega
        clear hl
        go_wp2_with fail
        go_ret3
        exact ⟨Below.refl _ _, .inl ⟨m, p + 1, HL.out, hm, by omega, by omega, by go_num⟩⟩
      · rw [if_neg (by omega)] at hl
        by_cases h3 : x < 48 ∨ 57 < x ∨ (a < p ∧ m = 0)
        · rw [if_pos (by omega)] at hl
          have HL := Lib.hid hl
          clear hl
          by_cases h58 : x = 58
          · have h4 : (p : Int) ≤ (a : Int) := by omega
            subst h58
            go_wp2_with fail
            go_ret3
            exact LenPost.err HL.out (Below.refl _ _) (Nat.le_refl _)
          · have h58' : ((x : Int) == 58) = false := by simp; omega
            by_cases h5 : x < 48
            · have h5' : (x : Int) < 48 := by omega
              go_wp2_with fail
              go_ret3
              exact LenPost.err HL.out (Below.refl _ _) (Nat.le_refl _)
            · have h5' : (48 : Int) ≤ (x : Int) := by omega
              by_cases h6 : 57 < x
              · have h6' : (57 : Int) < (x : Int) := by omega
                go_wp2_with fail
                go_ret3
                exact LenPost.err HL.out (Below.refl _ _) (Nat.le_refl _)
              · have h6' : (x : Int) ≤ 57 := by omega
                have h7' : (a : Int) < (p : Int) := by omega
                obtain rfl : m = 0 := by omega
                go_wp2_with fail
                go_ret3
                exact LenPost.err HL.out (Below.refl _ _) (Nat.le_refl _)
        · rw [if_neg (by omega)] at hl
          have h58' : ((x : Int) == 58) = false := by simp; omega
          have h5' : (48 : Int) ≤ (x : Int) := by omega
          have h6' : (x : Int) ≤ 57 := by omega
          by_cases h8 : 999999 < m * 10 + (x - 48)
          · rw [if_pos h8] at hl
            have HL := Lib.hid hl
            have h8' : (999999 : Int) < (m : Int) * 10 + ((x : Int) - 48) := by omega
            clear hl
            by_cases h7 : a < p
            · have h7' : (a : Int) < (p : Int) := by omega
              have hm0 : ((m : Int) == 0) = false := by simp; omega
              go_wp2_with fail
              go_ret3
              exact LenPost.err HL.out (Below.refl _ _) (Nat.le_refl _)
            · have h7' : (p : Int) ≤ (a : Int) := by omega
              go_wp2_with fail
              go_ret3
              exact LenPost.err HL.out (Below.refl _ _) (Nat.le_refl _)
          · rw [if_neg h8] at hl
            have HL : Hid (Wr.len (s.drop a) 0 0 = Wr.len (s.drop (p + 1)) (p + 1 - a) (m * 10 + (x - 48))) := by rw [show p + 1 - a = p - a + 1 by omega]; exact hl
            have h8' : (m : Int) * 10 + ((x : Int) - 48) ≤ (999999 : Int) := by omega
            clear hl
            by_cases h7 : a < p
            · have h7' : (a : Int) < (p : Int) := by omega
              have hm0 : ((m : Int) == 0) = false := by simp; omega
              go_wp2_with fail
              go_round
              case rel => exact ⟨p + 1, m * 10 + (x - 48), by omega, by omega, by go_num, by congr 1; omega, by omega, HL.out⟩
              case measure => simp [RowKit.intOf]; omega
            · have h7' : (p : Int) ≤ (a : Int) := by omega
              go_wp2_with fail
              go_round
              case rel => exact ⟨p + 1, m * 10 + (x - 48), by omega, by omega, by go_num, by congr 1; omega, by omega, HL.out⟩
              case measure => simp [RowKit.intOf]; omega
    · obtain rfl : p = s.length := by omega
      rw [len_done] at hl
      have HL := Lib.hid hl
      clear hl
      go_wp2_with fail
      go_ret3
      exact LenPost.err HL.out (Below.refl _ _) (Nat.le_refl _)
end Go.Proofs.YtiogmegdkfnkkaaGreatDoor
namespace Go.Proofs.YtiogmegdkfnkkaaGreatDoor
open Go.RowKit Go.Lib Go.Sort Tx

abbrev I64 (a : Int) : Prop := -9223372036854775808 ≤ a ∧ a ≤ 9223372036854775807
/-- The text at a place, and the place behind it. -/
def getR (s : Bs) (a top : Int) : Except Nat (Bs × Nat) :=
  if a < 0 ∨ (s.length : Int) < a then .error 1
  else match Wr.get1 (s.drop a.toNat) top.toNat with
    | .error e => .error e
    | .ok (x, r) => .ok (x, s.length - r.length)
def gX (g : Except Nat (Bs × Nat)) : Bs := match g with | .ok (x, _) => x | .error _ => []
def gQ (g : Except Nat (Bs × Nat)) : Nat := match g with | .ok (_, q) => q | .error _ => 0
def gE (g : Except Nat (Bs × Nat)) : Nat := match g with | .ok _ => 0 | .error e => e
theorem get1_eq (s : Bs) (k n q top : Nat) (h : Wr.len (s.drop k) 0 0 = .ok (n, s.drop q)) (hq : q ≤ s.length) :
    Wr.get1 (s.drop k) top = if top < n then .error 3 else if s.length < q + n + 1 then .error 6 else if s[q + n]? ≠ some 44 then .error 5 else .ok ((s.drop q).take n, s.drop (q + n + 1)) := by
  unfold Wr.get1
  rw [h]
  simp only [List.length_drop, List.getElem?_drop, List.drop_drop]
  by_cases h1 : top < n
  · rw [if_pos h1, if_pos h1]
  · rw [if_neg h1, if_neg h1]
    by_cases h2 : s.length < q + n + 1
    · rw [if_pos (by omega), if_pos h2]
    · rw [if_neg (by omega), if_neg h2, Nat.add_assoc]
theorem get1_eqE (s : Bs) (k top x : Nat) (h : Wr.len (s.drop k) 0 0 = .error x) : Wr.get1 (s.drop k) top = .error x := by
  unfold Wr.get1
  rw [h]

def GetPost (s : Bs) (a top : Int) (w : World) (e : Ending) (w' : World) : Prop :=
  Below w.heap.size w w' ∧ ((∃ (x : Bs) (q : Nat), getR s a top = .ok (x, q) ∧ e = .returned (.tuple #[vs x, .int .i64 q, .nilIface])) ∨
    (∃ (y : Nat) (v : Value), getR s a top = .error y ∧ e = .returned (.tuple #[vs [], .int .i64 0, v]) ∧ ErrV w' v y))
theorem GetPost.err {s : Bs} {a top : Int} {w w' : World} {i : Int} {x : Nat} (h : getR s a top = .error x) (hb : Below w.heap.size w w') :
    GetPost s a top w (.returned (.tuple #[.string ⟨#[]⟩, .int .i64 0, .iface 122 (.pointer (some ⟨w'.heap.size, 0, none⟩))])) (w'.alloc (.cells #[.int .i64 i, .int .i64 x] 124)) :=
  ⟨hb.alloc hb.size _, .inr ⟨x, _, h, rfl, errV_new w' i x⟩⟩

set_option maxHeartbeats 4000000 in
theorem get_any (s : Bs) (a top : Int) (w : World) (hs : s.length ≤ 1000000000) (ha : I64 a) (ht : I64 top) :
    Calls Tryz.prog 58 #[vs s, .int .i64 a, .int .i64 top] w (GetPost s a top w) := by
  have hz := bs_size s
  have hm : s.length ≤ maxLen := by simp only [maxLen]; omega
  obtain ⟨ha1, ha2⟩ := ha
  obtain ⟨ht1, ht2⟩ := ht
  by_cases h0 : a < 0 ∨ (s.length : Int) < a
  · have HG : Hid (getR s a top = .error 1) := by show _ = _; unfold getR; rw [if_pos h0]
    by_cases h1 : a < 0
    · go_enter Tryz.func58, Tryz.ntmps58
      go_wp2_with fail
      go_ret3
      exact GetPost.err HG.out (Below.refl _ _)
    · have h2 : (0 : Int) ≤ a := by omega
      have h3 : ((bs s).size : Int) < a := by omega
      go_enter Tryz.func58, Tryz.ntmps58
      go_wp2_with fail
      go_ret3
      exact GetPost.err HG.out (Below.refl _ _)
  · obtain ⟨k, rfl⟩ : ∃ k : Nat, a = (k : Int) := ⟨a.toNat, by omega⟩
    have hk : k ≤ s.length := by omega
    have i1 : (0 : Int) ≤ (k : Int) := by omega
    have i2 : (k : Int) ≤ ((bs s).size : Int) := by omega
    have HR : Hid (getR s (k : Int) top = match Wr.get1 (s.drop k) top.toNat with | .error e => .error e | .ok (x, r) => .ok (x, s.length - r.length)) := by
      show _ = _
      unfold getR
      rw [if_neg h0]; rfl
    have HL := Lib.hid (length_any s k w hk hm)
    clear hm h0
    go_enter Tryz.func58, Tryz.ntmps58
    go_wp2_with fail
    refine HL.out.mono ?_
    rintro e w1 ⟨hb, ⟨n, q, hl, hn, hkq, hqs, rfl⟩ | ⟨x, v, hl, rfl, hv⟩⟩
    · have hg := get1_eq s k n q top.toNat hl hqs
      have b0 : (q : Int) + (n : Int) ≤ 2000000000 := by omega
      have b1 : (0 : Int) ≤ (q : Int) + (n : Int) := by omega
      by_cases h1 : top.toNat < n
      · rw [if_pos h1] at hg
        have HG : Hid (getR s (k : Int) top = .error 3) := by show _ = _; rw [HR.out, hg]
        clear hg hl
        by_cases htp : 0 < top
        · have h1' : top < (n : Int) := by omega
          go_wp2_with fail
          go_ret3
          exact GetPost.err HG.out hb
        · have h1' : (0 : Int) < (n : Int) := by omega
          have htp' : top ≤ 0 := by omega
          go_wp2_with fail
          go_ret3
          exact GetPost.err HG.out hb
      · rw [if_neg h1] at hg
        by_cases h2 : s.length < q + n + 1
        · rw [if_pos h2] at hg
          have HG : Hid (getR s (k : Int) top = .error 6) := by show _ = _; rw [HR.out, hg]
          have h2' : ((bs s).size : Int) < (q : Int) + (n : Int) + 1 := by omega
          clear hg hl
          by_cases htp : 0 < top
          · have h1' : (n : Int) ≤ top := by omega
            go_wp2_with fail
            go_ret3
            exact GetPost.err HG.out hb
          · have h1' : (n : Int) ≤ 0 := by omega
            have htp' : top ≤ 0 := by omega
            go_wp2_with fail
            go_ret3
            exact GetPost.err HG.out hb
        · rw [if_neg h2] at hg
          have h2' : (q : Int) + (n : Int) + 1 ≤ ((bs s).size : Int) := by omega
          have hqn : q + n < s.length := by omega
          have hqb : q + n < (bs s).size := by omega
          obtain ⟨c, hc⟩ : ∃ c, s[q + n]? = some c := ⟨_, List.getElem?_eq_getElem hqn⟩
          have hgb : (bs s)[q + n]'hqb = c := by
            have := List.getElem?_eq_getElem hqn
            exact Option.some.inj (this.symm.trans hc)
          rw [hc] at hg
          clear hc
          have h3' : (q : Int) + (n : Int) < ((bs s).size : Int) := by omega
          have h5' : ((q : Int) + (n : Int)).toNat = q + n := by omega
          have hx := bs_extract' s q (q + n)
          by_cases h3 : c = 44
          · subst h3
            rw [if_neg (by simp)] at hg
            have HG : Hid (getR s (k : Int) top = .ok ((s.take (q + n)).drop q, q + n + 1)) := by
              show _ = _
              rw [HR.out, hg]
              simp only [List.length_drop]
              rw [List.drop_take, show q + n - q = n by omega, show s.length - (s.length - (q + n + 1)) = q + n + 1 by omega]
            generalize (s.take (q + n)).drop q = X at *
            clear hg hl
            by_cases htp : 0 < top
            · have h1' : (n : Int) ≤ top := by omega
              go_wp2_with fail
              go_ret3
              exact ⟨hb, .inl ⟨X, q + n + 1, HG.out, by go_num⟩⟩
            · have h1' : (n : Int) ≤ 0 := by omega
              have htp' : top ≤ 0 := by omega
              go_wp2_with fail
              go_ret3
              exact ⟨hb, .inl ⟨X, q + n + 1, HG.out, by go_num⟩⟩
          · rw [if_pos (by simpa using h3)] at hg
            have HG : Hid (getR s (k : Int) top = .error 5) := by show _ = _; rw [HR.out, hg]
            have hc : ((c.toNat : Int) != 44) = true := by
              simp
              intro h
              exact h3 (UInt8.toNat_inj.1 (by simpa using (by omega : c.toNat = 44)))
            clear hg hl h3
            by_cases htp : 0 < top
            · have h1' : (n : Int) ≤ top := by omega
              go_wp2_with fail
              go_ret3
              exact GetPost.err HG.out hb
            · have h1' : (n : Int) ≤ 0 := by omega
              have htp' : top ≤ 0 := by omega
              go_wp2_with fail
              go_ret3
              exact GetPost.err HG.out hb
    · have HG : Hid (getR s (k : Int) top = .error x) := by show _ = _; rw [HR.out, get1_eqE s k top.toNat x hl]
      obtain ⟨g, rfl, hc⟩ := hv
      have HC := Lib.hid hc
      clear hl hc
      go_wp2_with fail
      go_ret3
      exact ⟨hb, .inr ⟨x, _, HG.out, rfl, g, rfl, HC.out⟩⟩

set_option maxHeartbeats 4000000 in
theorem wGet_any (s : Bs) (a top : Int) (w : World) (hs : s.length ≤ 1000000000) (ha : I64 a) (ht : I64 top) (hg : ErrT w) :
    Calls Tryz.prog 48 #[vs s, .int .i64 a, .int .i64 top] w fun e w' => e = .returned (.tuple #[vs (gX (getR s a top)), .int .i64 (gQ (getR s a top)), .int .i64 (gE (getR s a top))]) ∧ Below w.heap.size w w' := by
  have HL := Lib.hid (get_any s a top w hs ha ht)
  have HG := Lib.hid hg
  clear hs ha ht hg
  generalize hR : getR s a top = R at *
  have HR := Lib.hid hR
  clear hR
  go_enter Tryz.func48, Tryz.ntmps48
  go_wp2_with fail
  refine HL.out.mono ?_
  rintro e w1 ⟨hb, ⟨x, q, h1, rfl⟩ | ⟨y, v, h1, rfl, hv⟩⟩
  · rw [HR.out] at h1
    subst h1
    go_wp2_with fail
    go_ret3
    exact ⟨rfl, hb⟩
  · rw [HR.out] at h1
    subst h1
    have hlt : 1 < w.heap.size := World.block_lt_of_cell? w ⟨1, 0, none⟩ (by rw [HG.out])
    have HE : Hid (ErrT w1) := by exact Lib.hid ((hb.cell (p := ⟨1, 0, none⟩) hlt).trans HG.out)
    have HN := Lib.hid (number_any v y w1 HE.out hv)
    obtain ⟨g, rfl, hc⟩ := hv
    clear hc
    go_wp2_with fail
    refine HN.out.mono ?_
    rintro e w2 ⟨rfl, hb2⟩
    go_wp2_with fail
    go_ret3
    exact ⟨rfl, hb.trans (hb2.mono hb.size)⟩
end Go.Proofs.YtiogmegdkfnkkaaGreatDoor
namespace Go.Proofs.YtiogmegdkfnkkaaGreatDoor
open Go.RowKit Go.Lib Go.Sort Tx

theorem len_err : ∀ (t : Wr.Bs) (i n x : Nat), Wr.len t i n = .error x → x = 3 ∨ x = 5 ∨ x = 6 := by
  intro t
  induction t with
  | nil => intro i n x h; simp [Wr.len] at h; omega
  | cons c t ih =>
    intro i n x h
    simp only [Wr.len] at h
    split at h
    · cases h
    · split at h
      · injection h with h; omega
      · split at h
        · injection h with h; omega
        · exact ih _ _ _ h
theorem get1_err (t : Wr.Bs) (top x : Nat) (h : Wr.get1 t top = .error x) : x = 3 ∨ x = 5 ∨ x = 6 := by
  unfold Wr.get1 at h
  split at h
  · next e he => injection h with h; subst h; exact len_err _ _ _ _ he
  · split at h
    · injection h with h; omega
    · split at h
      · injection h with h; omega
      · split at h
        · injection h with h; omega
        · cases h
theorem getR_err {s : Bs} {a top : Int} {y : Nat} (h : getR s a top = .error y) : y = 1 ∨ y = 3 ∨ y = 5 ∨ y = 6 := by
  unfold getR at h
  split at h
  · injection h with h; omega
  · split at h
    · next e he => injection h with h; subst h; have := get1_err _ _ _ he; omega
    · cases h
theorem getR_ok {s : Bs} {p : Nat} {top : Int} {x : Bs} {q : Nat} (hp : p ≤ s.length) (h : getR s p top = .ok (x, q)) : p < q ∧ q ≤ s.length ∧ Wr.get1 (s.drop p) top.toNat = .ok (x, s.drop q) ∧ s.drop p = Wr.put x ++ s.drop q ∧ x.length ≤ top.toNat ∧ x.length ≤ 999999 := by
  unfold getR at h
  rw [if_neg (by omega)] at h
  simp only [Int.toNat_natCast] at h
  split at h
  · cases h
  · next y r hg =>
    injection h with h
    injection h with h1 h2
    subst h1
    obtain ⟨h3, h4, h5⟩ := Wr.get1_inv _ _ _ _ hg
    have hl := congrArg List.length h3
    have h6 := Wr.put_len y
    simp only [List.length_drop, List.length_append] at hl
    have hr : r = s.drop q := by
      have h7 : (s.drop p).drop (Wr.put y).length = r := by rw [h3, List.drop_left]
      rw [List.drop_drop] at h7
      rw [← h7]
      congr 1
      omega
    rw [hr] at h3 hg
    exact ⟨by omega, by omega, hg, h3, h4, h5⟩
theorem getR_at {s : Bs} {p : Nat} {top : Int} (hp : p ≤ s.length) : getR s p top = match Wr.get1 (s.drop p) top.toNat with | .error e => .error e | .ok (x, r) => .ok (x, s.length - r.length) := by
  unfold getR
  rw [if_neg (by omega)]
  rfl

def allL (s : Bs) : List Bs := match Wr.all s with | .ok l => l | .error _ => []
def allE (s : Bs) : Nat := match Wr.all s with | .ok _ => 0 | .error e => e
def AllRel (s : Bs) (p : Nat) (l : List Bs) : Prop := Wr.all s = match Wr.all (s.drop p) with | .ok m => .ok (l ++ m) | .error e => .error e
theorem AllRel.start (s : Bs) : AllRel s 0 [] := by
  unfold AllRel
  rw [List.drop_zero]
  cases Wr.all s <;> rfl
theorem AllRel.step {s : Bs} {p : Nat} {l : List Bs} {x : Bs} {q : Nat} (h : AllRel s p l) (hp : p ≤ s.length) (hg : getR s p 999999 = .ok (x, q)) : AllRel s q (l ++ [x]) := by
  obtain ⟨h1, h2, h3, h4, h5⟩ := getR_ok hp hg
  unfold AllRel at *
  rw [h, Wr.all_ok _ _ _ h3]
  cases Wr.all (s.drop q) <;> simp
theorem AllRel.stop {s : Bs} {l : List Bs} (h : AllRel s s.length l) : allL s = l ∧ allE s = 0 := by
  unfold AllRel at h
  rw [List.drop_length, Wr.all_nil] at h
  simp only [List.append_nil] at h
  unfold allL allE
  rw [h]
  exact ⟨rfl, rfl⟩
theorem AllRel.err {s : Bs} {p : Nat} {l : List Bs} {y : Nat} (h : AllRel s p l) (hp : p < s.length) (hg : getR s p 999999 = .error y) : allL s = [] ∧ allE s = y := by
  rw [getR_at (by omega)] at hg
  have hd : s.drop p ≠ [] := by simp; omega
  unfold AllRel at h
  split at hg
  · next e he =>
    injection hg with hg
    subst hg
    rw [Wr.all_err _ _ hd he] at h
    unfold allL allE
    rw [h]
    exact ⟨rfl, rfl⟩
  · cases hg

def AllPost (s : Bs) (w : World) (e : Ending) (w' : World) : Prop :=
  Below w.heap.size w w' ∧ ∃ v, e = .returned (.tuple #[v, .int .i64 (allE s : Nat)]) ∧ Row vs w' w'.heap.size v (allL s)

set_option maxHeartbeats 4000000 in
theorem all_any (s : Bs) (w : World) (hs : s.length ≤ 1000000) (hg : ErrT w) :
    Calls Tryz.prog 34 #[vs s] w (AllPost s w) := by
  have hz := bs_size s
  have HG := Lib.hid hg
  have hlt0 : 1 < w.heap.size := World.block_lt_of_cell? w ⟨1, 0, none⟩ (by rw [hg])
  clear hg
  go_enter Tryz.func34, Tryz.ntmps34
  go_wp2_with fail
  go_loopw [4, 5] (fun o i wr => ∃ (p : Nat) (l : List Bs), p ≤ s.length ∧ i = .int .i64 p ∧ l.length ≤ p ∧ Txs w.heap.size wr o l ∧ Below w.heap.size w wr ∧ AllRel s p l) (fun _ i _ => s.length - (RowKit.intOf i).toNat)
  case atStart => exact ⟨0, [], Nat.zero_le _, rfl, Nat.le_refl _, Txs.nil _ _, Below.refl _ _, AllRel.start s⟩
  case round =>
    obtain ⟨p, l, hp, rfl, hll, ho, hbel, hr⟩ := hrel
    have hle := hbel.size
    have HE : Hid (ErrT wr) := Lib.hid ((hbel.cell (p := ⟨1, 0, none⟩) hlt0).trans HG.out)
    by_cases hlt : p < s.length
    · have hpi : (p : Int) < ((bs s).size : Int) := by omega
      have HC := Lib.hid (wGet_any s p 999999 wr (by omega) ⟨by omega, by omega⟩ ⟨by omega, by omega⟩ HE.out)
      have HR := Lib.hid hr
      have HO := Lib.hid ho
      clear hr ho
      match hgr : getR s p 999999 with
      | .error y =>
        have hy := getR_err hgr
        rw [hgr] at HC
        have hy0 : ((y : Int) != 0) = true := by simp; omega
        have HQ := Lib.hid (AllRel.err HR.out hlt hgr)
        clear hgr hy
        go_wp2_with fail
        refine HC.out.mono ?_
        rintro e w2 ⟨rfl, hb⟩
        unfold gX gQ gE
        go_wp2_with fail
        go_ret2
        exact ⟨hbel.trans (hb.mono hle), .slice none 0 0, by rw [HQ.out.2]; rfl, by rw [HQ.out.1]; exact Row.nil _ _ _ _ _ (Nat.zero_le _)⟩
      | .ok (x, q) =>
        have HQ := Lib.hid (AllRel.step HR.out hp hgr)
        obtain ⟨q1, q2, _⟩ := getR_ok hp hgr
        rw [hgr] at HC
        clear hgr
        go_wp2_with fail
        refine HC.out.mono ?_
        rintro e w2 ⟨rfl, hb⟩
        unfold gX gQ gE
        have HO2 := Lib.hid (HO.out.below hb)
        have hb2 : Below w.heap.size w w2 := hbel.trans (hb.mono hle)
        have hle2 := hb2.size
        go_wp2_with (at_builtin; refine app_text rfl (.tmp 23) (.tmp 25) rfl w.heap.size _ l x rfl rfl HO2.out hle2 (by omega) ?_; intro v' w4 h8 h9 h10)
        go_roundw
        case rel => exact ⟨q, l ++ [x], q2, rfl, by simp; omega, h8, hb2.trans h9, HQ.out⟩
        case measure => simp [RowKit.intOf]; omega
    · obtain rfl : p = s.length := by omega
      have HQ := Lib.hid (AllRel.stop hr)
      clear hr
      go_wp2_with fail
      go_ret2
      exact ⟨hbel, _, by rw [HQ.out.2]; rfl, by rw [HQ.out.1]; exact ho.row⟩

end Go.Proofs.YtiogmegdkfnkkaaGreatDoor
