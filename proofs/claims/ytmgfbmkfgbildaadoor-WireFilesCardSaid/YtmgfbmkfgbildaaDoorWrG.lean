/- What the row's condition on the listed variables gives a walk; a world that meets it. -/
import Derived.Test.YtmgfbmkfgbildaaDoorRows
import Derived.Test.YtmgfbmkfgbildaaDoorWrW5
import Derived.Lay
import Derived.LaidHandle
import Derived.Lib.LaidTab
namespace Go.Proofs.YtmgfbmkfgbildaaDoor
open Go.RowKit

theorem laidVars_mem {P : Program} {w : World} : ∀ (l : List (String × DataW Unit)) (ps : List MemPlace), DataW.LaidVars P w l ps → ∀ n d, (n, d) ∈ l →
    ∃ g t cs fuel p, P.globalNamed n = some g ∧ (P.globals[g]?).map (·.type) = some t ∧ w.var? P n = some cs ∧ DataW.trod (fun _ => ()) P w 0 (fun _ => true) false fuel t cs.toList = some (d, p) := by
  intro l
  induction l with
  | nil => intro ps _ n d h; cases h
  | cons x r ih =>
    intro ps h n d hm
    obtain ⟨n0, d0⟩ := x
    obtain ⟨g, t, cs, fuel, p, q, h1, h2, h3, h4, h5, _⟩ := h
    rcases List.mem_cons.1 hm with e | hm
    · injection e with e1 e2
      subst e1 e2
      exact ⟨g, t, cs, fuel, p, h1, h2, h3, h4⟩
    · exact ih q h5 n d hm
theorem tabIs_of_mem {P : Program} {W : World} {name : String} {k : IntKind} {zs : List Int} {l : List (String × DataW Unit)} {g : Nat} {t e : TypeId} {n : Nat}
    (hg : P.globalNamed name = some g) (hty : (P.globals[g]?).map (·.type) = some t) (ht : P.underlying t = some (.array n e)) (he : P.underlying e = some (.int k)) (hce : P.cellsOf e = 1) (hct : P.cellsOf t = n)
    (h : laidMet P l W) (hm : (name, Lib.tabData k zs) ∈ l) : Lib.TabIs P W name k zs := by
  obtain ⟨ps, h1, _⟩ := h
  obtain ⟨g', t', cs, fuel, p, hg', ht', hvar, hd⟩ := laidVars_mem l ps h1 _ _ hm
  obtain rfl := Option.some.inj (hg.symm.trans hg')
  obtain rfl := Option.some.inj (hty.symm.trans ht')
  unfold Lib.TabIs
  rw [hvar, ← Lib.cells_of_tab ht he hce hct hd]

/-- The listed variables: the tables, and the handle. -/
def plainL : List (String × DataW Unit) := [("math/bits.deBruijn32tab", Rows.laid_math_bits_deBruijn32tab), ("math/bits.deBruijn64tab", Rows.laid_math_bits_deBruijn64tab), ("internal/strconv.uint64pow10", Rows.laid_internal_strconv_uint64pow10)]
def handleL : List (String × DataW Unit) := [("errors.errorType", Rows.laid_errors_errorType)]
theorem laid_parts (W : World) (l : List (String × DataW Unit)) (h1 : (l.filter fun x => x.2.handleName?.isNone) = plainL) (h2 : (l.filter fun x => x.2.handleName?.isSome) = handleL) : laidMetH Tryd.prog l W ↔ laidMet Tryd.prog plainL W ∧ handlesMet Tryd.prog handleL W := by
  unfold laidMetH
  rw [h2, h1]
  rfl
theorem gErrT : Tryd.prog.globalNamed "errors.errorType" = some 0 := by kernel_rfl
theorem gRtype : (Tryd.prog.cutTypes.find? (·.1 == "internal/reflectlite.rtype")).map (·.2) = some 88 := by kernel_rfl
theorem gOneRow : ((List.range 145).filter fun t => Tryd.prog.rowNamed t [101, 114, 114, 111, 114]) = [44] := by kernel_rfl
theorem gSize : Tryd.prog.types.size = 145 := by kernel_rfl
theorem gHandle : Rows.laid_errors_errorType (H := Unit) = .iface "internal/reflectlite.rtype" (.agg [.ptr (.lit (.string [101, 114, 114, 111, 114]))]) := rfl
theorem gl_of_laid {W : World} {l : List (String × DataW Unit)} (h1 : (l.filter fun x => x.2.handleName?.isNone) = plainL) (h2 : (l.filter fun x => x.2.handleName?.isSome) = handleL) (h : laidMetH Tryd.prog l W) : Gl W := by
  obtain ⟨hp, hh⟩ := (laid_parts W l h1 h2).1 h
  refine ⟨?_, ?_⟩
  · obtain ⟨name, u, ty, e1, e2, e3, e4, e5⟩ := hh _ (List.mem_singleton.2 rfl)
    have en : name = [101, 114, 114, 111, 114] := (Option.some.inj e1).symm
    subst en
    obtain rfl := Option.some.inj (gRtype.symm.trans e2)
    have hm : ty ∈ (List.range 145).filter fun t => Tryd.prog.rowNamed t [101, 114, 114, 111, 114] := List.mem_filter.2 ⟨List.mem_range.2 (by rw [← gSize]; exact e3), e4⟩
    rw [gOneRow] at hm
    obtain rfl := List.mem_singleton.1 hm
    have hh : typeHandle Tryd.prog 44 = .pointer (some ⟨5, 44, none⟩) := by kernel_rfl
    rw [hh] at e5
    simpa using World.var?_cell gErrT e5 0
  · exact tabIs_of_mem (g := 1) (t := 109) (e := 102) (n := 20) (by kernel_rfl) (by kernel_rfl) Tryd.underlying109 Tryd.underlying102 (by kernel_rfl) (by kernel_rfl) hp (List.mem_cons_of_mem _ (List.mem_cons_of_mem _ (List.mem_singleton.2 rfl)))

/-- A world that meets the condition. -/
noncomputable def handleW (os : Os) : World :=
  let w0 := World.holding Tryd.prog os ⟨#[], #[], []⟩
  { w0 with heap := w0.heap.modify 0 fun
      | .cells _ t frozen => .cells #[.iface 88 (.agg #[.pointer (some ⟨5, 44, none⟩)])] t frozen
      | o => o }
noncomputable def laidW (os : Os) : World := (handleW os).layVars Tryd.prog plainL
theorem laidW_os (os : Os) : (laidW os).os = os := World.layVars_os _ _ _
theorem laidW_met (os : Os) (args : Array Value) (l : List (String × DataW Unit)) (h1 : (l.filter fun x => x.2.handleName?.isNone) = plainL) (h2 : (l.filter fun x => x.2.handleName?.isSome) = handleL) :
    laidMetH Tryd.prog l ((laidW os).forCall (fun _ _ => 0) ⟨#[], args, []⟩).memory := by
  rw [laid_parts _ l h1 h2]
  refine ⟨?_, handlesMet_of_B (by kernel_rfl)⟩
  have e1 : (plainL.filter fun x => (plainL.map (·.1)).contains x.1) = plainL := by kernel_rfl
  have e2 : (plainL.filter fun x => !(plainL.map (·.1)).contains x.1) = [] := by kernel_rfl
  have h : laidMet Tryd.prog plainL (laidW os) := laidMet_layVars (w0 := handleW os) (plainL.map (·.1)) [] (by rw [e1]; rfl) (by rw [e1]; kernel_rfl) (by rw [e1]; kernel_rfl) (by rw [e2]; exact LaidIn.none)
  exact h.of_heap (by simp [World.memory, World.forCall, Input.heap])
theorem laidW_shaped (os : Os) (args : Array Value) (hr : ((laidW os).forCall (fun _ _ => 0) ⟨#[], args, []⟩).variablesZipB Tryd.prog = true)
    (hq : ((((laidW os).forCall (fun _ _ => 0) ⟨#[], args, []⟩)).heap.toList.drop Tryd.prog.globals.size).take ((begin Tryd.prog (fun _ _ => 0) default).world.heap.size - Tryd.prog.globals.size) = (begin Tryd.prog (fun _ _ => 0) default).world.heap.toList.drop Tryd.prog.globals.size) :
    ((laidW os).forCall (fun _ _ => 0) ⟨#[], args, []⟩).Shaped Tryd.prog := World.shaped_of_ZipB hr hq
end Go.Proofs.YtmgfbmkfgbildaaDoor
