/- What the row's condition on the listed variables gives a walk; a world that meets it. · A row of texts, as lists of bytes. · A map[string]T that the call owns, by what it holds: g. T is any type: an element is its value. · Rows of files, and one file, as they come in. · Rows of records as they come in. · record.may. -/
import Derived.Test.YtiogmegdkfnkkaaGreatDoorRows
import Derived.Test.YtiogmegdkfnkkaaGreatDoorQ5
import Derived.Lay
import Derived.LaidHandle
import Derived.Lib.LaidTab
import Derived.Test.YtiogmegdkfnkkaaGreatDoorQ1
import Derived.Maps.Own
import Derived.Maps.OwnOps
import Derived.Maps.Views
import Derived.StringKeys
import Derived.Test.YtiogmegdkfnkkaaGreatDoorQ2
import Derived.ChangeArms
import Derived.WideKeyPair
import Derived.Test.YtiogmegdkfnkkaaGreatDoorQ3
import Derived.Test.YtiogmegdkfnkkaaGreatDoorQ7
namespace Go.Proofs.YtiogmegdkfnkkaaGreatDoor
open Go.RowKit

theorem laidVars_mem {P : Program} {w : World} : ∀ (l : List (String × DataW Unit)) (ps : List MemPlace), DataW.LaidVars P w l ps → ∀ n d, (n, d) ∈ l →
    ∃ g t cs fuel p, P.globalNamed n = some g ∧ (P.globals[g]?).map (·.type) = some t ∧ w.var? P n = some cs ∧ DataW.trod (fun _ => ()) P w 0 (fun _ => true) false fuel t cs.toList = some (d, p) := by
  intro l
  induction l with
  | nil => intro ps _ n d h; cases h
  | cons x r ih =>
    intro ps h n d hm
    obtain ⟨n0, d0⟩ := x
    obtain ⟨g, t, cs, fuel, p, q, h1, h2, h3, h4, h5, _⟩ := h
    rcases List.mem_cons.1 hm with e | hm
    · injection e with e1 e2
      subst e1 e2
      exact ⟨g, t, cs, fuel, p, h1, h2, h3, h4⟩
    · exact ih q h5 n d hm
theorem tabIs_of_mem {P : Program} {W : World} {name : String} {k : IntKind} {zs : List Int} {l : List (String × DataW Unit)} {g : Nat} {t e : TypeId} {n : Nat}
    (hg : P.globalNamed name = some g) (hty : (P.globals[g]?).map (·.type) = some t) (ht : P.underlying t = some (.array n e)) (he : P.underlying e = some (.int k)) (hce : P.cellsOf e = 1) (hct : P.cellsOf t = n)
    (h : laidMet P l W) (hm : (name, Lib.tabData k zs) ∈ l) : Lib.TabIs P W name k zs := by
  obtain ⟨ps, h1, _⟩ := h
  obtain ⟨g', t', cs, fuel, p, hg', ht', hvar, hd⟩ := laidVars_mem l ps h1 _ _ hm
  obtain rfl := Option.some.inj (hg.symm.trans hg')
  obtain rfl := Option.some.inj (hty.symm.trans ht')
  unfold Lib.TabIs
  rw [hvar, ← Lib.cells_of_tab ht he hce hct hd]

/-- The listed variables: the tables, and the handle. -/
def plainL : List (String × DataW Unit) := [("math/bits.deBruijn32tab", Rows.laid_math_bits_deBruijn32tab), ("math/bits.deBruijn64tab", Rows.laid_math_bits_deBruijn64tab), ("internal/strconv.uint64pow10", Rows.laid_internal_strconv_uint64pow10)]
def handleL : List (String × DataW Unit) := [("errors.errorType", Rows.laid_errors_errorType)]
theorem laid_parts (W : World) (l : List (String × DataW Unit)) (h1 : (l.filter fun x => x.2.handleName?.isNone) = plainL) (h2 : (l.filter fun x => x.2.handleName?.isSome) = handleL) : laidMetH Tryz.prog l W ↔ laidMet Tryz.prog plainL W ∧ handlesMet Tryz.prog handleL W := by
  unfold laidMetH
  rw [h2, h1]
  rfl
theorem gErrT : Tryz.prog.globalNamed "errors.errorType" = some 1 := by kernel_rfl
theorem gRtype : (Tryz.prog.cutTypes.find? (·.1 == "internal/reflectlite.rtype")).map (·.2) = some 150 := by kernel_rfl
theorem gOneRow : ((List.range 192).filter fun t => Tryz.prog.rowNamed t [101, 114, 114, 111, 114]) = [93] := by kernel_rfl
theorem gSize : Tryz.prog.types.size = 192 := by kernel_rfl
theorem gHandle : Rows.laid_errors_errorType (H := Unit) = .iface "internal/reflectlite.rtype" (.agg [.ptr (.lit (.string [101, 114, 114, 111, 114]))]) := rfl
theorem gl_of_laid {W : World} {l : List (String × DataW Unit)} (h1 : (l.filter fun x => x.2.handleName?.isNone) = plainL) (h2 : (l.filter fun x => x.2.handleName?.isSome) = handleL) (h : laidMetH Tryz.prog l W) : Gl W := by
  obtain ⟨hp, hh⟩ := (laid_parts W l h1 h2).1 h
  refine ⟨?_, ?_⟩
  · obtain ⟨name, u, ty, e1, e2, e3, e4, e5⟩ := hh _ (List.mem_singleton.2 rfl)
    have en : name = [101, 114, 114, 111, 114] := (Option.some.inj e1).symm
    subst en
    obtain rfl := Option.some.inj (gRtype.symm.trans e2)
    have hm : ty ∈ (List.range 192).filter fun t => Tryz.prog.rowNamed t [101, 114, 114, 111, 114] := List.mem_filter.2 ⟨List.mem_range.2 (by rw [← gSize]; exact e3), e4⟩
    rw [gOneRow] at hm
    obtain rfl := List.mem_singleton.1 hm
    have hh : typeHandle Tryz.prog 93 = .pointer (some ⟨5, 93, none⟩) := by kernel_rfl
    rw [hh] at e5
    simpa using World.var?_cell gErrT e5 0
  · exact tabIs_of_mem (g := 0) (t := 132) (e := 115) (n := 20) (by kernel_rfl) (by kernel_rfl) Tryz.underlying132 Tryz.underlying115 (by kernel_rfl) (by kernel_rfl) hp (List.mem_cons_of_mem _ (List.mem_cons_of_mem _ (List.mem_singleton.2 rfl)))

/-- A world that meets the condition. -/
noncomputable def handleW (os : Os) : World :=
  let w0 := World.holding Tryz.prog os ⟨#[], #[], []⟩
  { w0 with heap := w0.heap.modify 1 fun
      | .cells _ t frozen => .cells #[.iface 150 (.agg #[.pointer (some ⟨5, 93, none⟩)])] t frozen
      | o => o }
noncomputable def laidW (os : Os) : World := (handleW os).layVars Tryz.prog plainL
theorem laidW_os (os : Os) : (laidW os).os = os := World.layVars_os _ _ _
theorem laidW_met (os : Os) (args : Array Value) (l : List (String × DataW Unit)) (h1 : (l.filter fun x => x.2.handleName?.isNone) = plainL) (h2 : (l.filter fun x => x.2.handleName?.isSome) = handleL) :
    laidMetH Tryz.prog l ((laidW os).forCall (fun _ _ => 0) ⟨#[], args, []⟩).memory := by
  rw [laid_parts _ l h1 h2]
  refine ⟨?_, handlesMet_of_B (by kernel_rfl)⟩
  have e1 : (plainL.filter fun x => (plainL.map (·.1)).contains x.1) = plainL := by kernel_rfl
  have e2 : (plainL.filter fun x => !(plainL.map (·.1)).contains x.1) = [] := by kernel_rfl
  have h : laidMet Tryz.prog plainL (laidW os) := laidMet_layVars (w0 := handleW os) (plainL.map (·.1)) [] (by rw [e1]; rfl) (by rw [e1]; kernel_rfl) (by rw [e1]; kernel_rfl) (by rw [e2]; exact LaidIn.none)
  exact h.of_heap (by simp [World.memory, World.forCall, Input.heap])
theorem laidW_shaped (os : Os) (args : Array Value) (hr : ((laidW os).forCall (fun _ _ => 0) ⟨#[], args, []⟩).variablesZipB Tryz.prog = true)
    (hq : ((((laidW os).forCall (fun _ _ => 0) ⟨#[], args, []⟩)).heap.toList.drop Tryz.prog.globals.size).take ((begin Tryz.prog (fun _ _ => 0) default).world.heap.size - Tryz.prog.globals.size) = (begin Tryz.prog (fun _ _ => 0) default).world.heap.toList.drop Tryz.prog.globals.size) :
    ((laidW os).forCall (fun _ _ => 0) ⟨#[], args, []⟩).Shaped Tryz.prog := World.shaped_of_ZipB hr hq
end Go.Proofs.YtiogmegdkfnkkaaGreatDoor
namespace Go.Proofs.YtiogmegdkfnkkaaGreatDoor
open Go.RowKit Tx
theorem row_bs {w : World} {B : Nat} {v : Value} {z : List ByteArray} (h : Row Value.string w B v z) (ok : ∀ x ∈ z, x.size ≤ maxLen) : ∃ l : List Bs, Row vs w B v l ∧ (∀ x ∈ l, x.length ≤ maxLen) ∧ l.length = z.length := by
  refine ⟨z.map (·.data.toList), ?_, ?_, by simp⟩
  · obtain ⟨cap, h1, h2, h3⟩ := h
    refine ⟨cap, by simpa using h1, h2, ?_⟩
    rcases h3 with ⟨he, A, hv⟩ | ⟨b, off, hv, hb, hc⟩
    · exact .inl ⟨by simpa using he, A, hv⟩
    · refine .inr ⟨b, off, by simpa using hv, hb, fun j hj => ?_⟩
      have := hc j (by simpa using hj)
      rw [this, List.getElem_map]
      show some (Value.string _) = some (Value.string (bs _))
      rw [bs_of]
  · intro x hx
    obtain ⟨y, hy, rfl⟩ := List.mem_map.1 hx
    rw [size_list]
    exact ok y hy
end Go.Proofs.YtiogmegdkfnkkaaGreatDoor
namespace Go.Proofs.YtiogmegdkfnkkaaGreatDoor
open Go.Maps Go.RowKit Tx

/-- an element reads as itself -/
def heldElemS (v : Value) : Option (DataW Value × List MemPlace) := some (.held v, [])
def MapS (w : World) (k : TypeId) (b n : Nat) (g : Bs → Option Value) : Prop :=
  ∃ D : DataW Value, w.ownsMap Tryz.prog k heldElemS b n D ∧ IsMap D ∧ ∀ i : Bs, i.length ≤ maxLen → ∀ z, D.atKey (.string i) z = match g i with | some v => .held v | none => z

theorem MapS.made (w : World) (k : TypeId) : MapS (w.alloc (.map #[] 0)) k w.heap.size 0 fun _ => none :=
  ⟨.map [], World.ownsMap_made _ _ _ _, isMap_empty, fun _ _ _ => rfl⟩
theorem MapS.mono {w : World} {k : TypeId} {b n n' : Nat} {g : Bs → Option Value} (h : MapS w k b n g) (hn : n ≤ n') : MapS w k b n' g := by
  obtain ⟨D, h1, h2⟩ := h
  exact ⟨D, h1.mono hn, h2⟩
theorem MapS.lt {w : World} {k : TypeId} {b n : Nat} {g : Bs → Option Value} (h : MapS w k b n g) : b < w.heap.size := by
  obtain ⟨D, h1, _⟩ := h
  exact h1.lt
theorem MapS.keep {w w' : World} {k : TypeId} {b n : Nat} {g : Bs → Option Value} (h : MapS w k b n g) (hb : w'.heap[b]? = w.heap[b]?) : MapS w' k b n g := by
  obtain ⟨D, ⟨es, clock, h1, h2⟩, h3⟩ := h
  exact ⟨D, ⟨es, clock, hb.trans h1, h2⟩, h3⟩
theorem MapS.below {w w' : World} {k : TypeId} {b n : Nat} {g : Bs → Option Value} (h : MapS w k b n g) (hb : Below w.heap.size w w') : MapS w' k b n g := h.keep (hb.block b h.lt)
theorem MapS.congr {w : World} {k : TypeId} {b n : Nat} {g g' : Bs → Option Value} (h : MapS w k b n g) (hg : ∀ i, g i = g' i) : MapS w k b n g' := by
  rwa [show g' = g from funext fun i => (hg i).symm]

theorem MapS.update {w : World} {k t e : TypeId} {b n : Nat} {g : Bs → Option Value} (h : MapS w k b n g) (hk : Tryz.prog.underlying k = some .string) (ht : Tryz.prog.underlying t = some (.map k e)) (hn : n < maxLen)
    (i : Bs) (hi : i.length ≤ maxLen) (v : Value) :
    ∃ w', (Instr.mapUpdate t (.map (some b)) (.string (bs i)) v).run Tryz.prog w = .ok () w' ∧ MapS w' k b (n + 1) (fun j => if j = i then some v else g j) ∧ w.grownBy w' (some b) := by
  obtain ⟨D, h1, h2, h3⟩ := h
  have hkey : keyOf Tryz.prog k (.string (bs i)) = some (.string i) := by
    have := Go.WideMaps.keyOf_string_mk hk (s := bs i) (by rw [bs_size]; exact hi)
    rwa [bs_list] at this
  obtain ⟨w', hr, ho, hg⟩ := h1.update (string_keyed hk) ht hn hkey (show heldElemS v = some (.held v, []) from rfl)
  refine ⟨w', hr, ⟨_, ho, h2.put _ _, fun j hj z => ?_⟩, hg⟩
  by_cases hji : j = i
  · subst hji
    simp only [if_true]
    exact atKey_put_same h2 ((string_keyed hk).key hkey) _ _
  · simp only [if_neg hji]
    rw [atKey_put_other (by simpa using hji)]
    exact h3 j hj z

theorem MapS.look {w : World} {k t e : TypeId} {b n : Nat} {g : Bs → Option Value} (h : MapS w k b n g) (hk : Tryz.prog.underlying k = some .string) (ht : Tryz.prog.underlying t = some (.map k e)) {z : Value} (hz : (zeroValue e).run Tryz.prog w = .ok z w)
    (c : Bool) (i : Bs) (hi : i.length ≤ maxLen) :
    (Instr.lookup t (.map (some b)) (.string (bs i)) c).run Tryz.prog w = .ok (if c then .tuple #[(g i).getD z, .bool (g i).isSome] else (g i).getD z) w := by
  have hkey : keyOf Tryz.prog k (.string (bs i)) = some (.string i) := by
    have := Go.WideMaps.keyOf_string_mk hk (s := bs i) (by rw [bs_size]; exact hi)
    rwa [bs_list] at this
  obtain ⟨D, ⟨es, clock, hb, F, _, rfl⟩, _, h3⟩ := h
  rcases Maps.fit_look c (string_keyed hk) ht hz hb F hkey with ⟨hrun, _, hat⟩ | ⟨e0, y, _, _, hrun, hRv, hat, _⟩
  · have hgi : g i = none := by
      cases hgi : g i with
      | none => rfl
      | some v =>
        have := (h3 i hi .nil).symm.trans (hat .nil)
        rw [hgi] at this
        cases this
    rw [hrun, hgi]; rfl
  · have hgi : g i = some e0.val := by
      have hy : y = (.held e0.val, []) := by simpa [heldElemS] using hRv.symm
      cases hgi : g i with
      | none =>
        have h4 := (h3 i hi .nil).symm.trans (hat .nil)
        rw [hgi, hy] at h4
        cases h4
      | some v =>
        have h4 := (h3 i hi .nil).symm.trans (hat .nil)
        rw [hgi, hy] at h4
        simpa using h4
    rw [hrun, hgi]; rfl
end Go.Proofs.YtiogmegdkfnkkaaGreatDoor
namespace Go.Proofs.YtiogmegdkfnkkaaGreatDoor
open Go.RowKit Tx Go.WideShapes

section
variable {H : Type} {enc : TypeId × Value → H} {P : Program} {w : World} {base : Nat} {spare : Nat → Bool} {held : Bool} {t e : TypeId} {a : Option Addr} {len cap : Nat} {d : DataW H} {p : List MemPlace}
/-- A cell of a struct's field that is a text. -/
theorem f_field_string {fuel : Nat} {cs : List Value} {x : Option (DataW H × List MemPlace)} {i : Nat} (he : P.underlying e = some .string) (hi : i < cs.length) (h : DataW.trod enc P w base spare held fuel e ((cs.drop i).take 1) = x) (hx : x.isSome = true) :
    ∃ l : Bs, cs[i]? = some (.string (bs l)) ∧ l.length ≤ maxLen := by
  obtain ⟨y, rfl⟩ := Option.isSome_iff_exists.1 hx
  obtain ⟨s, h1, _, h2⟩ := DataW.trod_string he h
  refine ⟨s.data.toList, ?_, by rw [size_list]; exact h2⟩
  rw [bs_of]
  have := congrArg (fun z : List Value => z[0]?) h1
  simpa [hi] using this
theorem read_file {fs : Array Field} (ht : P.underlying t = some (.struct fs)) (hf : fs.toList.map (fun f => (f.type, f.offset)) = [(e, 0), (e, 1)]) (he : P.underlying e = some .string) (hc : P.cellsOf t = 2) (hce : P.cellsOf e = 1) :
    ∀ fuel cs y, DataW.trod enc P w base spare held fuel t cs = some y → ∃ a : Wr.F, cs = ff a ∧ FOk a := by
  intro fuel cs y h
  obtain ⟨xs, m, _, _, h1, h2, h3⟩ := DataW.trod_struct ht h
  have hs : fs.size = 2 := by have := congrArg List.length hf; simpa using this
  rw [hc] at h1
  have each : ∀ i, i < 2 → ∃ l : Bs, cs[i]? = some (.string (bs l)) ∧ l.length ≤ maxLen := by
    intro i hi
    have h4 : (fs.toList.map (fun f => (f.type, f.offset)))[i]? = some (e, i) := by
      rw [hf]
      rcases i with _ | _ | i
      · rfl
      · rfl
      · omega
    rw [List.getElem?_map] at h4
    obtain ⟨f, h5, h6⟩ := Option.map_eq_some_iff.1 h4
    injection h6 with h7 h8
    have h9 := h3 i f (by rw [← Array.getElem?_toList]; exact h5)
    rw [h7, h8, hce] at h9
    exact f_field_string he (by omega) h9 (by rw [List.getElem?_eq_getElem (by omega)]; rfl)
  obtain ⟨l0, a0, b0⟩ := each 0 (by omega)
  obtain ⟨l1, a1, b1⟩ := each 1 (by omega)
  refine ⟨(l0, l1), ?_, b0, b1⟩
  apply List.ext_getElem?
  intro i
  rcases i with _ | _ | i
  · exact a0
  · exact a1
  · rw [List.getElem?_eq_none (by omega), List.getElem?_eq_none (by simp)]
theorem in_files {fs : Array Field} {k : TypeId} (hl : P.underlying t = some (.slice e)) (ht : P.underlying e = some (.struct fs)) (hf : fs.toList.map (fun f => (f.type, f.offset)) = [(k, 0), (k, 1)]) (he : P.underlying k = some .string) (hc : P.cellsOf e = 2) (hce : P.cellsOf k = 1)
    (h : DataW.Trod enc P w base spare held t (.slice a len cap) d p) : ∃ xs : List Wr.F, xs.length = len ∧ RowC 2 ff w w.heap.size (.slice a len cap) xs ∧ ∀ x ∈ xs, FOk x :=
  rowC_open 2 ff FOk hl hc (by decide) (read_file ht hf he hc hce) h
theorem in_file {fs : Array Field} {k : TypeId} (ht : P.underlying t = some (.struct fs)) (hf : fs.toList.map (fun f => (f.type, f.offset)) = [(k, 0), (k, 1)]) (he : P.underlying k = some .string) (hc : P.cellsOf t = 2) (hce : P.cellsOf k = 1)
    {r : Reach} {b0 : Nat} {v : Value} (hval : Value.okWide P w r b0 t v) (h : DataW.Trod enc P w base spare held t v d p) : ∃ a : Wr.F, v = .agg #[.string (bs a.1), .string (bs a.2)] ∧ FOk a := by
  obtain ⟨cs, rfl, hs⟩ := okWide_struct ht hval
  obtain ⟨m, hm⟩ := h
  obtain ⟨a, e, hb⟩ := read_file ht hf he hc hce m _ _ hm
  refine ⟨a, ?_, hb⟩
  obtain ⟨l⟩ := cs
  have e' : l = ff a := e
  rw [e']
end
end Go.Proofs.YtiogmegdkfnkkaaGreatDoor
namespace Go.Proofs.YtiogmegdkfnkkaaGreatDoor
open Go.RowKit Tx Go.WideShapes

def SOk (r : Rc.Seen) : Prop := r.1.length ≤ maxLen ∧ r.2.2.length ≤ maxLen
def RecOk (x : Rc.Rec) : Prop := x.1.length ≤ maxLen ∧ (∀ r ∈ x.2.1, SOk r) ∧ ∀ f ∈ x.2.2, FOk f
theorem list3 {cs : List Value} (h : cs.length = 3) : ∃ a b c, cs = [a, b, c] := by
  rcases cs with _ | ⟨a, _ | ⟨b, _ | ⟨c, _ | ⟨d, cs⟩⟩⟩⟩ <;> simp at h
  exact ⟨a, b, c, rfl⟩
section
variable {H : Type} {enc : TypeId × Value → H} {w : World} {base : Nat} {spare : Nat → Bool} {held : Bool} {a : Option Addr} {len cap : Nat} {d : DataW H} {p : List MemPlace}
theorem read_seen : ∀ fuel cs y, DataW.trod enc Tryz.prog w base spare held fuel 44 cs = some y → ∃ r : Rc.Seen, cs = sf r ∧ SOk r := by
  intro fuel cs y hy
  obtain ⟨ys, m, _, _, h1, h2, h3⟩ := DataW.trod_struct Tryz.underlying44 hy
  have hc : Tryz.prog.cellsOf 44 = 3 := by kernel_rfl
  have c1 : Tryz.prog.cellsOf 9 = 1 := by kernel_rfl
  have c2 : Tryz.prog.cellsOf 4 = 1 := by kernel_rfl
  rw [hc] at h1
  have e0 : DataW.trod enc Tryz.prog w base spare held m 9 ((cs.drop 0).take (Tryz.prog.cellsOf 9)) = ys[0]? := h3 0 _ rfl
  have e1 : DataW.trod enc Tryz.prog w base spare held m 4 ((cs.drop 1).take (Tryz.prog.cellsOf 4)) = ys[1]? := h3 1 _ rfl
  have e2 : DataW.trod enc Tryz.prog w base spare held m 9 ((cs.drop 2).take (Tryz.prog.cellsOf 9)) = ys[2]? := h3 2 _ rfl
  rw [c1] at e0 e2
  rw [c2] at e1
  obtain ⟨v0, v1, v2, rfl⟩ := list3 h1
  rw [List.getElem?_eq_getElem (by rw [h2]; decide)] at e0 e1 e2
  obtain ⟨x0, g0, _, k0⟩ := DataW.trod_string Tryz.underlying9 e0
  obtain ⟨x1, g1, _⟩ := DataW.trod_bool Tryz.underlying4 e1
  obtain ⟨x2, g2, _, k2⟩ := DataW.trod_string Tryz.underlying9 e2
  simp at g0 g1 g2
  subst g0; subst g1; subst g2
  refine ⟨(x0.data.toList, x1, x2.data.toList), ?_, by show _ ≤ _; rw [size_list]; exact k0, by show _ ≤ _; rw [size_list]; exact k2⟩
  simp only [sf, vs, bs_of]
theorem in_recs (h : DataW.Trod enc Tryz.prog w base spare held 22 (.slice a len cap) d p) :
    ∃ l : List Rc.Rec, l.length = len ∧ RowR w w.heap.size (.slice a len cap) l ∧ ∀ x ∈ l, RecOk x := by
  have hopen : ∃ rs : List Raw, rs.length = len ∧ RowC 3 rf w w.heap.size (.slice a len cap) rs ∧ ∀ r ∈ rs, ∃ x, RecIs w w.heap.size r x ∧ RecOk x := by
    refine rowC_open 3 rf (fun r => ∃ x, RecIs w w.heap.size r x ∧ RecOk x) Tryz.underlying22 (by kernel_rfl) (by decide) (fun fuel cs y hy => ?_) h
    obtain ⟨ys, m, _, _, h1, h2, h3⟩ := DataW.trod_struct Tryz.underlying42 hy
    have hc : Tryz.prog.cellsOf 42 = 3 := by kernel_rfl
    have c1 : Tryz.prog.cellsOf 9 = 1 := by kernel_rfl
    have c2 : Tryz.prog.cellsOf 39 = 1 := by kernel_rfl
    have c3 : Tryz.prog.cellsOf 40 = 1 := by kernel_rfl
    rw [hc] at h1
    have e0 : DataW.trod enc Tryz.prog w base spare held m 9 ((cs.drop 0).take (Tryz.prog.cellsOf 9)) = ys[0]? := h3 0 _ rfl
    have e1 : DataW.trod enc Tryz.prog w base spare held m 39 ((cs.drop 1).take (Tryz.prog.cellsOf 39)) = ys[1]? := h3 1 _ rfl
    have e2 : DataW.trod enc Tryz.prog w base spare held m 40 ((cs.drop 2).take (Tryz.prog.cellsOf 40)) = ys[2]? := h3 2 _ rfl
    rw [c1] at e0
    rw [c2] at e1
    rw [c3] at e2
    obtain ⟨v0, v1, v2, rfl⟩ := list3 h1
    rw [List.getElem?_eq_getElem (by rw [h2]; decide)] at e0 e1 e2
    obtain ⟨x0, g0, _, k0⟩ := DataW.trod_string Tryz.underlying9 e0
    simp at g0
    subst g0
    have e1' : DataW.trod enc Tryz.prog w base spare held m 39 [v1] = some _ := e1
    have e2' : DataW.trod enc Tryz.prog w base spare held m 40 [v2] = some _ := e2
    obtain ⟨A1, l1, p1, hv1⟩ : ∃ A l c, v1 = .slice A l c := by
      rcases DataW.trod_slice Tryz.underlying39 e1' with ⟨hcs, _⟩ | ⟨x, len', cap', _, _, _, _, hcs, _⟩ <;> cases hcs <;> exact ⟨_, _, _, rfl⟩
    obtain ⟨A2, l2, p2, hv2⟩ : ∃ A l c, v2 = .slice A l c := by
      rcases DataW.trod_slice Tryz.underlying40 e2' with ⟨hcs, _⟩ | ⟨x, len', cap', _, _, _, _, hcs, _⟩ <;> cases hcs <;> exact ⟨_, _, _, rfl⟩
    subst hv1 hv2
    obtain ⟨s1, _, r1, ok1⟩ := rowC_open 3 sf SOk Tryz.underlying39 (by kernel_rfl) (by decide) read_seen ⟨m, e1'⟩
    obtain ⟨s2, _, r2, ok2⟩ := in_files Tryz.underlying40 Tryz.underlying46 (by kernel_rfl) Tryz.underlying9 (by kernel_rfl) (by kernel_rfl) ⟨m, e2'⟩
    refine ⟨(x0.data.toList, .slice A1 l1 p1, .slice A2 l2 p2), ?_, (x0.data.toList, s1, s2), ⟨rfl, r1, r2⟩, by show _ ≤ _; rw [size_list]; exact k0, ok1, ok2⟩
    simp only [rf, vs, bs_of]
  obtain ⟨rs, h1, h2, h3⟩ := hopen
  haveI : Nonempty Rc.Rec := ⟨([], [], [])⟩
  obtain ⟨g, hg⟩ : ∃ g : Raw → Rc.Rec, ∀ r ∈ rs, RecIs w w.heap.size r (g r) ∧ RecOk (g r) := ⟨fun r => Classical.epsilon fun x => RecIs w w.heap.size r x ∧ RecOk x, fun r hr => Classical.epsilon_spec (h3 r hr)⟩
  refine ⟨rs.map g, by simp [h1], ⟨rs, h2, by simp, fun i h h' => ?_⟩, fun x hx => ?_⟩
  · rw [List.getElem_map]
    exact (hg _ (List.getElem_mem h)).1
  · obtain ⟨r, hr, rfl⟩ := List.mem_map.1 hx
    exact (hg r hr).2
end
end Go.Proofs.YtiogmegdkfnkkaaGreatDoor
namespace Go.Proofs.YtiogmegdkfnkkaaGreatDoor
open Go.Maps Go.RowKit Tx

/-- How often a name was seen: never, or once. -/
def one1 (q : Bool) : Option Value := if q then some (.int .i64 1) else none
theorem emp_b (x : Bs) : ((bs x).toList == []) = x.isEmpty := by rw [toListB]; cases x <;> rfl
theorem intZero (w : World) : (zeroValue 3).run Tryz.prog w = .ok (.int .i64 0) w := Tryz.zeroValue3 w
theorem seenOk_eq (n : Bs) (b : Bool) (t : Bs) : Rc.seenOk (n, b, t) = (!n.isEmpty && (decide (n.length ≤ 100) && (decide (t.length ≤ 4000) && (b || t.isEmpty)))) := by
  unfold Rc.seenOk
  simp only
  cases n with
  | nil => simp
  | cons a n => simp
set_option maxRecDepth 100000 in
set_option maxHeartbeats 8000000 in
theorem may_any (rz : Raw) (z : Rc.Rec) (w : World) (hz : RecIs w w.heap.size rz z) (hok : RecOk z) (hz1 : z.2.1.length < 1000000) :
    Calls Tryz.prog 23 #[.agg #[.string (bs rz.1), rz.2.1, rz.2.2]] w fun e w' => e = .returned (.bool (Rc.mayR z)) ∧ Below w.heap.size w w' := by
  have hmm := @run_makeMap Tryz.prog
  obtain ⟨zA, zp, zA', zp', rfl⟩ := hz.rows
  simp only
  obtain ⟨_, _, e1, _, _, h3⟩ := hz.reads.shape
  simp only at e1
  injection e1 with e1 _ e1'
  subst e1 e1'
  have H3 := Lib.hid h3
  have HW := Lib.hid hz.writes
  have HO := Lib.hid hok
  have hrl := hok.1
  simp only [maxLen] at hrl
  clear h3 hz hok
  have hb0 : ∀ o1 o2, Below w.heap.size w ((w.alloc o1).alloc o2) := fun o1 o2 => ((Below.refl _ _).alloc (Nat.le_refl _) o1).alloc (by simp) o2
  have hz0 : ((w.alloc (.cells #[.string (bs z.1), .slice zA z.2.1.length zp, .slice zA' z.2.2.length zp'] 42)).alloc (.map #[] 0)).heap[w.heap.size]? = some (.cells #[.string (bs z.1), .slice zA z.2.1.length zp, .slice zA' z.2.2.length zp'] 42 (0, 0)) := (Below.heap_alloc _ _ _ (by simp)).trans (heap_alloc_new _ _)
  have hm0 : MapS ((w.alloc (.cells #[.string (bs z.1), .slice zA z.2.1.length zp, .slice zA' z.2.2.length zp'] 42)).alloc (.map #[] 0)) 9 (w.heap.size + 1) 0 (fun n => one1 ((z.2.1.take 0).any fun y => y.1 == n)) := by
    have := MapS.made (w.alloc (.cells #[.string (bs z.1), .slice zA z.2.1.length zp, .slice zA' z.2.2.length zp'] 42)) 9
    simpa [one1] using this
  have HM0 := Lib.hid (And.intro hz0 (And.intro hm0 hb0))
  clear hm0 hb0
  go_enter Tryz.func23, Tryz.ntmps23
  go_wp2_with fail
  go_loopw [10] (fun i wr => ∃ k : Nat, k ≤ z.2.1.length ∧ i = .int .i64 k ∧ Hid (∀ j < k, Rc.stepS z.2.1 j = true) ∧ Hid (MapS wr 9 (w.heap.size + 1) k (fun n => one1 ((z.2.1.take k).any fun y => y.1 == n))) ∧ wr.heap[w.heap.size]? = some (.cells #[.string (bs z.1), .slice zA z.2.1.length zp, .slice zA' z.2.2.length zp'] 42 (0, 0)) ∧ Below w.heap.size w wr) (fun i _ => z.2.1.length - (RowKit.intOf i).toNat)
  case atStart => exact ⟨0, Nat.zero_le _, rfl, Lib.hid (fun j hj => absurd hj (Nat.not_lt_zero _)), Lib.hid HM0.out.2.1, HM0.out.1, HM0.out.2.2 _ _⟩
  case round =>
    clear HM0 hz0
    obtain ⟨k, hk, rfl, hst, hmap, hzr, hbel⟩ := hrel
    have hle := hbel.size
    by_cases hlt : k < z.2.1.length
    · obtain ⟨b, off, rfl, hbl, hcc⟩ := H3.out (by intro e; rw [e] at hlt; simp at hlt)
      obtain ⟨k1, k2, k3⟩ := sf_cells (fun i u hu => (hbel.cell (p := ⟨b, off + k * 3 + i, none⟩) hbl).trans (hcc k hlt i u hu))
      have HT : Hid (z.2.1.take (k + 1) = z.2.1.take k ++ [z.2.1[k]]) := Lib.hid (List.take_succ_eq_append_getElem hlt)
      have HSE := Lib.hid (Rc.stepS_at z.2.1 k hlt)
      have HNO := Lib.hid (Rc.mayR_no z k hlt)
      obtain ⟨ok1, ok2⟩ := HO.out.2.1 _ (List.getElem_mem hlt)
      simp only [maxLen] at ok1 ok2
      clear hcc
      generalize z.2.1[k] = r at *
      obtain ⟨r1, r2, r3⟩ := r
      simp only at k1 k2 k3 HSE ok1 ok2
      rw [seenOk_eq] at HSE
      have hz1 := bs_size r1
      have hz3 := bs_size r3
      have i0 : (0 : Int) ≤ (k : Int) := by omega
      have i1 : (k : Int) < (z.2.1.length : Int) := by omega
      have hnew := heap_alloc_new wr (.cells #[.string (bs r1), .bool r2, .string (bs r3)] 44)
      have hal : Below wr.heap.size wr (wr.alloc (.cells #[.string (bs r1), .bool r2, .string (bs r3)] 44)) := (Below.refl _ _).alloc (Nat.le_refl _) _
      have hmb := hmap.out.lt
      have hm1 := hmap.out.below hal
      have hzr1 := (hal.block _ (Nat.lt_of_lt_of_le (Nat.lt_succ_self _) (Nat.le_of_lt hmb))).trans hzr
      have hbox := (hal.block _ (Nat.lt_of_lt_of_le (Nat.lt_succ_self _) (Nat.le_of_lt hmb)))
      have hsz1 : (wr.alloc (.cells #[.string (bs r1), .bool r2, .string (bs r3)] 44)).heap.size = wr.heap.size + 1 := by simp
      have hlk := hm1.look (t := 64) (z := .int .i64 0) Tryz.underlying9 Tryz.underlying64 (intZero _) false r1 (by simp only [maxLen]; omega)
      simp only [Bool.false_eq_true, if_false] at hlk
      obtain ⟨cb1, cb2, cb3, _, _, _⟩ := cells3 hnew
      have hq1 : (one1 ((z.2.1.take k).any fun y => y.1 == r1)).getD (.int .i64 0) = .int .i64 (if (z.2.1.take k).any (fun y => y.1 == r1) then 1 else 0) := by
        unfold one1; split <;> rfl
      rw [hq1] at hlk
      have HME : ∀ w2, MapS w2 9 (w.heap.size + 1) (k + 1) (fun j => if j = r1 then some (.int .i64 1) else one1 ((z.2.1.take k).any fun y => y.1 == j)) → ((z.2.1.take k).any fun y => y.1 == r1) = false → MapS w2 9 (w.heap.size + 1) (k + 1) (fun n => one1 ((z.2.1.take (k + 1)).any fun y => y.1 == n)) := by
        intro w2 h hq
        refine h.congr fun j => ?_
        rw [HT.out, List.any_append]
        by_cases hj : j = r1
        · subst hj; rw [hq, if_pos rfl]; simp [one1]
        · rw [if_neg hj]
          have : (r1 == j) = false := by simpa using fun e => hj e.symm
          simp [this]
      have HME := Lib.hid HME
      clear hq1
      generalize hq : (z.2.1.take k).any (fun y => y.1 == r1) = q at *
      cases q with
      | true =>
        have HFF := Lib.hid (HNO.out (by rw [HSE.out]; simp))
        simp only [if_true] at hlk
        obtain ⟨w2, hup, hm2, hg2⟩ := hm1.update (t := 64) Tryz.underlying9 Tryz.underlying64 (by simp only [maxLen]; omega) r1 (by simp only [maxLen]; omega) (.int .i64 2)
        have hlk2 := hm2.look (t := 64) (z := .int .i64 0) Tryz.underlying9 Tryz.underlying64 (intZero _) false r1 (by simp only [maxLen]; omega)
        simp only [Bool.false_eq_true, if_false, if_true, Option.getD_some] at hlk2
        have hnew2 := (hg2.block wr.heap.size (by rw [hsz1]; omega) (fun e => by injection e with e; omega)).trans hnew
        obtain ⟨d1, d2, d3, _, _, _⟩ := cells3 hnew2
        have hb2 : Below w.heap.size w w2 := (hbel.trans (hal.mono hle)).grown hg2 (Nat.le_trans hle (by rw [hsz1]; omega)) (fun e he => by injection he with he; omega)
        clear hm2 hg2 hm1 hmap hnew hnew2 HME hq
        go_wp2_with fail
        go_ret
        exact ⟨ret_bool HFF.out.symm, hb2⟩
      | false =>
        simp only [Bool.false_eq_true, if_false] at hlk
        obtain ⟨w2, hup, hm2, hg2⟩ := hm1.update (t := 64) Tryz.underlying9 Tryz.underlying64 (by simp only [maxLen]; omega) r1 (by simp only [maxLen]; omega) (.int .i64 1)
        have hlk2 := hm2.look (t := 64) (z := .int .i64 0) Tryz.underlying9 Tryz.underlying64 (intZero _) false r1 (by simp only [maxLen]; omega)
        simp only [Bool.false_eq_true, if_false, if_true, Option.getD_some] at hlk2
        have hnew2 := (hg2.block wr.heap.size (by rw [hsz1]; omega) (fun e => by injection e with e; omega)).trans hnew
        have hzr2 := (hg2.block w.heap.size (by rw [hsz1]; omega) (fun e => by injection e with e; omega)).trans hzr1
        obtain ⟨d1, d2, d3, _, _, _⟩ := cells3 hnew2
        have hb2 : Below w.heap.size w w2 := (hbel.trans (hal.mono hle)).grown hg2 (Nat.le_trans hle (by rw [hsz1]; omega)) (fun e he => by injection he with he; omega)
        have HM2 := Lib.hid (HME.out w2 hm2 rfl)
        clear hm2 hg2 hm1 hmap hnew hnew2 HME hq hzr1
        have hem := emp_b r1
        have hem3 := emp_b r3
        cases hn0 : r1.isEmpty with
        | true =>
          have HFF := Lib.hid (HNO.out (by rw [HSE.out, hn0]; simp))
          rw [hn0] at hem
          clear HSE HNO hn0
          go_wp2_with fail
          go_ret
          exact ⟨ret_bool HFF.out.symm, hb2⟩
        | false =>
          rw [hn0] at hem
          by_cases hn1 : r1.length ≤ 100
          · have a1 : decide ((100 : Int) < ((bs r1).size : Int)) = false := decide_eq_false (by omega)
            have a2 : decide ((100 : Int) < (r1.length : Int)) = false := decide_eq_false (by omega)
            have a3 : decide (100 < r1.length) = false := decide_eq_false (by omega)
            by_cases ht : r3.length ≤ 4000
            · have b1 : decide ((4000 : Int) < ((bs r3).size : Int)) = false := decide_eq_false (by omega)
              have b2 : decide ((4000 : Int) < (r3.length : Int)) = false := decide_eq_false (by omega)
              have b3 : decide (4000 < r3.length) = false := decide_eq_false (by omega)
              cases r2 with
              | true =>
                have HFF := Lib.hid (show Rc.stepS z.2.1 k = true by rw [HSE.out, hn0]; simp [hn1, ht])
                clear HSE HNO hn0 hn1 ht
                go_wp2_with fail
                go_roundw
                case rel => exact ⟨k + 1, by omega, by go_num, Lib.hid (fun j hj => by rcases Nat.lt_or_eq_of_le (Nat.lt_succ_iff.1 hj) with h | rfl; exact hst.out j h; exact HFF.out), HM2, hzr2, hb2⟩
                case measure => simp [RowKit.intOf]; omega
              | false =>
                cases he3 : r3.isEmpty with
                | true =>
                  rw [he3] at hem3
                  have HFF := Lib.hid (show Rc.stepS z.2.1 k = true by rw [HSE.out, hn0, he3]; simp [hn1, ht])
                  clear HSE HNO hn0 hn1 ht he3
                  go_wp2_with fail
                  go_roundw
                  case rel => exact ⟨k + 1, by omega, by go_num, Lib.hid (fun j hj => by rcases Nat.lt_or_eq_of_le (Nat.lt_succ_iff.1 hj) with h | rfl; exact hst.out j h; exact HFF.out), HM2, hzr2, hb2⟩
                  case measure => simp [RowKit.intOf]; omega
                | false =>
                  rw [he3] at hem3
                  have HFF := Lib.hid (HNO.out (by rw [HSE.out, hn0, he3]; simp))
                  clear HSE HNO hn0 hn1 ht he3
                  go_wp2_with fail
                  go_ret
                  exact ⟨ret_bool HFF.out.symm, hb2⟩
            · have b1 : decide ((4000 : Int) < ((bs r3).size : Int)) = true := decide_eq_true (by omega)
              have b2 : decide ((4000 : Int) < (r3.length : Int)) = true := decide_eq_true (by omega)
              have b3 : decide (4000 < r3.length) = true := decide_eq_true (by omega)
              have HFF := Lib.hid (HNO.out (by rw [HSE.out]; simp [ht]))
              clear HSE HNO hn0 hn1 ht
              go_wp2_with fail
              go_ret
              exact ⟨ret_bool HFF.out.symm, hb2⟩
          · have a1 : decide ((100 : Int) < ((bs r1).size : Int)) = true := decide_eq_true (by omega)
            have a2 : decide ((100 : Int) < (r1.length : Int)) = true := decide_eq_true (by omega)
            have a3 : decide (100 < r1.length) = true := decide_eq_true (by omega)
            have HFF := Lib.hid (HNO.out (by rw [HSE.out]; simp [hn1]))
            clear HSE HNO hn0 hn1
            go_wp2_with fail
            go_ret
            exact ⟨ret_bool HFF.out.symm, hb2⟩
    · obtain rfl : k = z.2.1.length := by omega
      obtain ⟨z0, z1, z2, _, _, _⟩ := cells3 hzr
      have HE := Lib.hid (Rc.mayR_end z hst.out)
      have hsz := bs_size z.1
      have hem := emp_b z.1
      have hcon := fRight_any (.slice zA' z.2.2.length zp') z.2.2 wr ((HW.out.below hbel (Nat.le_refl _)).more hle) HO.out.2.2
      clear hst hmap
      cases hn0 : z.1.isEmpty with
      | true =>
        rw [hn0] at hem
        have hl0 : z.1.length = 0 := by simpa using hn0
        have HFF : Hid (Rc.mayR z = false) := Lib.hid (by rw [HE.out, hl0]; simp)
        clear hn0
        go_wp2_with fail
        go_ret
        exact ⟨ret_bool HFF.out.symm, hbel⟩
      | false =>
        rw [hn0] at hem
        have hl0 : 1 ≤ z.1.length := by
          cases hz1 : z.1 with
          | nil => rw [hz1] at hn0; cases hn0
          | cons a x => simp
        by_cases hn1 : z.1.length ≤ 60
        · have a1 : decide (((bs z.1).size : Int) ≤ 60) = true := decide_eq_true (by omega)
          have a2 : decide ((z.1.length : Int) ≤ 60) = true := decide_eq_true (by omega)
          have a3 : decide (z.1.length ≤ 60) = true := decide_eq_true (by omega)
          by_cases hr : z.2.1.length ≤ 40
          · have b1 : decide ((z.2.1.length : Int) ≤ 40) = true := decide_eq_true (by omega)
            have HFF : Hid (Rc.mayR z = Wr.right z.2.2) := Lib.hid (by rw [HE.out]; simp [hl0, hn1, hr])
            clear hn0 hn1 hr hl0
            go_wp2_with (go_at_call 39; refine hcon.mono ?_; rintro e w2 ⟨rfl, hb2⟩)
            go_ret
            exact ⟨ret_bool HFF.out.symm, hbel.trans (hb2.mono hle)⟩
          · have b1 : decide ((z.2.1.length : Int) ≤ 40) = false := decide_eq_false (by omega)
            have HFF : Hid (Rc.mayR z = false) := Lib.hid (by rw [HE.out]; simp [hr])
            clear hn0 hn1 hr hl0
            go_wp2_with fail
            go_ret
            exact ⟨ret_bool HFF.out.symm, hbel⟩
        · have a1 : decide (((bs z.1).size : Int) ≤ 60) = false := decide_eq_false (by omega)
          have a2 : decide ((z.1.length : Int) ≤ 60) = false := decide_eq_false (by omega)
          have a3 : decide (z.1.length ≤ 60) = false := decide_eq_false (by omega)
          have HFF : Hid (Rc.mayR z = false) := Lib.hid (by rw [HE.out]; simp [hn1])
          clear hn0 hn1 hl0
          go_wp2_with fail
          go_ret
          exact ⟨ret_bool HFF.out.symm, hbel⟩
end Go.Proofs.YtiogmegdkfnkkaaGreatDoor
