/- Rows of files, and one file, as they come in. -/
import Derived.Test.YtkoegbjnhoecoaaGreatDoorRows
import Derived.Test.YtkoegbjnhoecoaaGreatDoorH1
import Derived.Test.YtkoegbjnhoecoaaGreatDoorH3
import Derived.ChangeArms
import Derived.WideKeyPair
namespace Go.Proofs.YtkoegbjnhoecoaaGreatDoor
open Go.RowKit Tx Go.WideShapes

section
variable {H : Type} {enc : TypeId × Value → H} {P : Program} {w : World} {base : Nat} {spare : Nat → Bool} {held : Bool} {t e : TypeId} {a : Option Addr} {len cap : Nat} {d : DataW H} {p : List MemPlace}
/-- A cell of a struct's field that is a text. -/
theorem f_field_string {fuel : Nat} {cs : List Value} {x : Option (DataW H × List MemPlace)} {i : Nat} (he : P.underlying e = some .string) (hi : i < cs.length) (h : DataW.trod enc P w base spare held fuel e ((cs.drop i).take 1) = x) (hx : x.isSome = true) :
    ∃ l : Bs, cs[i]? = some (.string (bs l)) ∧ l.length ≤ maxLen := by
  obtain ⟨y, rfl⟩ := Option.isSome_iff_exists.1 hx
  obtain ⟨s, h1, _, h2⟩ := DataW.trod_string he h
  refine ⟨s.data.toList, ?_, by rw [size_list]; exact h2⟩
  rw [bs_of]
  have := congrArg (fun z : List Value => z[0]?) h1
  simpa [hi] using this
theorem read_file {fs : Array Field} (ht : P.underlying t = some (.struct fs)) (hf : fs.toList.map (fun f => (f.type, f.offset)) = [(e, 0), (e, 1)]) (he : P.underlying e = some .string) (hc : P.cellsOf t = 2) (hce : P.cellsOf e = 1) :
    ∀ fuel cs y, DataW.trod enc P w base spare held fuel t cs = some y → ∃ a : Wr.F, cs = ff a ∧ FOk a := by
  intro fuel cs y h
  obtain ⟨xs, m, _, _, h1, h2, h3⟩ := DataW.trod_struct ht h
  have hs : fs.size = 2 := by have := congrArg List.length hf; simpa using this
  rw [hc] at h1
  have each : ∀ i, i < 2 → ∃ l : Bs, cs[i]? = some (.string (bs l)) ∧ l.length ≤ maxLen := by
    intro i hi
    have h4 : (fs.toList.map (fun f => (f.type, f.offset)))[i]? = some (e, i) := by
      rw [hf]
      rcases i with _ | _ | i
      · rfl
      · rfl
      · omega
    rw [List.getElem?_map] at h4
    obtain ⟨f, h5, h6⟩ := Option.map_eq_some_iff.1 h4
    injection h6 with h7 h8
    have h9 := h3 i f (by rw [← Array.getElem?_toList]; exact h5)
    rw [h7, h8, hce] at h9
    exact f_field_string he (by omega) h9 (by rw [List.getElem?_eq_getElem (by omega)]; rfl)
  obtain ⟨l0, a0, b0⟩ := each 0 (by omega)
  obtain ⟨l1, a1, b1⟩ := each 1 (by omega)
  refine ⟨(l0, l1), ?_, b0, b1⟩
  apply List.ext_getElem?
  intro i
  rcases i with _ | _ | i
  · exact a0
  · exact a1
  · rw [List.getElem?_eq_none (by omega), List.getElem?_eq_none (by simp)]
theorem in_files {fs : Array Field} {k : TypeId} (hl : P.underlying t = some (.slice e)) (ht : P.underlying e = some (.struct fs)) (hf : fs.toList.map (fun f => (f.type, f.offset)) = [(k, 0), (k, 1)]) (he : P.underlying k = some .string) (hc : P.cellsOf e = 2) (hce : P.cellsOf k = 1)
    (h : DataW.Trod enc P w base spare held t (.slice a len cap) d p) : ∃ xs : List Wr.F, xs.length = len ∧ RowC 2 ff w w.heap.size (.slice a len cap) xs ∧ ∀ x ∈ xs, FOk x :=
  rowC_open 2 ff FOk hl hc (by decide) (read_file ht hf he hc hce) h
theorem in_file {fs : Array Field} {k : TypeId} (ht : P.underlying t = some (.struct fs)) (hf : fs.toList.map (fun f => (f.type, f.offset)) = [(k, 0), (k, 1)]) (he : P.underlying k = some .string) (hc : P.cellsOf t = 2) (hce : P.cellsOf k = 1)
    {r : Reach} {b0 : Nat} {v : Value} (hval : Value.okWide P w r b0 t v) (h : DataW.Trod enc P w base spare held t v d p) : ∃ a : Wr.F, v = .agg #[.string (bs a.1), .string (bs a.2)] ∧ FOk a := by
  obtain ⟨cs, rfl, hs⟩ := okWide_struct ht hval
  obtain ⟨m, hm⟩ := h
  obtain ⟨a, e, hb⟩ := read_file ht hf he hc hce m _ _ hm
  refine ⟨a, ?_, hb⟩
  obtain ⟨l⟩ := cs
  have e' : l = ff a := e
  rw [e']
end
end Go.Proofs.YtkoegbjnhoecoaaGreatDoor
