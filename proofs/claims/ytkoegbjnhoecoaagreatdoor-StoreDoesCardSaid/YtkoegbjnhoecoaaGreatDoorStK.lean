/- Steps, as they come in. -/
import Derived.Test.YtkoegbjnhoecoaaGreatDoorStE
import Derived.Test.YtkoegbjnhoecoaaGreatDoorWrIn
namespace Go.Proofs.YtkoegbjnhoecoaaGreatDoor
open Go.RowKit Tx Go.WideShapes

/-- A step: its files, whether they are raw, its limit, whether a crash is behind it, and what that keeps. -/
structure Stp where
  files : List Wr.F
  raw : Bool
  lim : Int
  crash : Bool
  keep : List Bool
/-- A step as it lies: its files' and its keep's slices. -/
abbrev RawS := Value × Bool × Int × Bool × Value
def stf (r : RawS) : List Value := [r.1, .bool r.2.1, .int .i64 r.2.2.1, .bool r.2.2.2.1, r.2.2.2.2]
structure StepIs (w : World) (B : Nat) (r : RawS) (x : Stp) : Prop where
  files : RowC 2 ff w B r.1 x.files
  nil : NilOr r.1
  ok : ∀ f ∈ x.files, FOk f
  raw : r.2.1 = x.raw
  lim : r.2.2.1 = x.lim
  wf : (Lit.int .i64 x.lim).wf = true
  crash : r.2.2.2.1 = x.crash
  keep : Row Value.bool w B r.2.2.2.2 x.keep
def RowS (w : World) (B : Nat) (v : Value) (l : List Stp) : Prop :=
  ∃ rs : List RawS, RowC 5 stf w B v rs ∧ rs.length = l.length ∧ ∀ i (h : i < rs.length) (h' : i < l.length), StepIs w B rs[i] l[i]
theorem list5 {cs : List Value} (h : cs.length = 5) : ∃ a b c d e, cs = [a, b, c, d, e] := by
  rcases cs with _ | ⟨a, _ | ⟨b, _ | ⟨c, _ | ⟨d, _ | ⟨e, _ | ⟨f, cs⟩⟩⟩⟩⟩⟩ <;> simp at h
  exact ⟨a, b, c, d, e, rfl⟩
section
variable {H : Type} {enc : TypeId × Value → H} {w : World} {base : Nat} {spare : Nat → Bool} {held : Bool} {a : Option Addr} {len cap : Nat} {d : DataW H} {p : List MemPlace}
theorem in_steps (h : DataW.Trod enc Tryz.prog w base spare held 47 (.slice a len cap) d p) :
    ∃ l : List Stp, l.length = len ∧ RowS w w.heap.size (.slice a len cap) l ∧ ∀ x ∈ l, True := by
  haveI : Inhabited RawS := ⟨(undef, false, 0, false, undef)⟩
  have hopen : ∃ rs : List RawS, rs.length = len ∧ RowC 5 stf w w.heap.size (.slice a len cap) rs ∧ ∀ r ∈ rs, ∃ x, StepIs w w.heap.size r x := by
    refine rowC_open 5 stf (fun r => ∃ x, StepIs w w.heap.size r x) Tryz.underlying47 (by kernel_rfl) (by decide) (fun fuel cs y hy => ?_) h
    obtain ⟨ys, m, _, _, h1, h2, h3⟩ := DataW.trod_struct Tryz.underlying51 hy
    have hc : Tryz.prog.cellsOf 51 = 5 := by kernel_rfl
    have c1 : Tryz.prog.cellsOf 30 = 1 := by kernel_rfl
    have c2 : Tryz.prog.cellsOf 4 = 1 := by kernel_rfl
    have c3 : Tryz.prog.cellsOf 3 = 1 := by kernel_rfl
    have c4 : Tryz.prog.cellsOf 39 = 1 := by kernel_rfl
    rw [hc] at h1
    have e0 : DataW.trod enc Tryz.prog w base spare held m 30 ((cs.drop 0).take (Tryz.prog.cellsOf 30)) = ys[0]? := h3 0 _ rfl
    have e1 : DataW.trod enc Tryz.prog w base spare held m 4 ((cs.drop 1).take (Tryz.prog.cellsOf 4)) = ys[1]? := h3 1 _ rfl
    have e2 : DataW.trod enc Tryz.prog w base spare held m 3 ((cs.drop 2).take (Tryz.prog.cellsOf 3)) = ys[2]? := h3 2 _ rfl
    have e3 : DataW.trod enc Tryz.prog w base spare held m 4 ((cs.drop 3).take (Tryz.prog.cellsOf 4)) = ys[3]? := h3 3 _ rfl
    have e4 : DataW.trod enc Tryz.prog w base spare held m 39 ((cs.drop 4).take (Tryz.prog.cellsOf 39)) = ys[4]? := h3 4 _ rfl
    rw [c1] at e0
    rw [c2] at e1 e3
    rw [c3] at e2
    rw [c4] at e4
    obtain ⟨v0, v1, v2, v3, v4, rfl⟩ := list5 h1
    rw [List.getElem?_eq_getElem (by rw [h2]; decide)] at e0 e1 e2 e3 e4
    have e0' : DataW.trod enc Tryz.prog w base spare held m 30 [v0] = some _ := e0
    have e4' : DataW.trod enc Tryz.prog w base spare held m 39 [v4] = some _ := e4
    obtain ⟨x1, g1, _⟩ := DataW.trod_bool Tryz.underlying4 e1
    obtain ⟨x3, g3, _⟩ := DataW.trod_bool Tryz.underlying4 e3
    obtain ⟨x2, g2, _, k2⟩ := DataW.trod_int Tryz.underlying3 e2
    simp at g1 g2 g3
    subst g1; subst g2; subst g3
    obtain ⟨A1, l1, p1, hv1, hnil⟩ : ∃ A l c, v0 = .slice A l c ∧ NilOr v0 := by
      rcases DataW.trod_slice Tryz.underlying30 e0' with ⟨hcs, _⟩ | ⟨x, len', cap', _, _, _, _, hcs, _⟩ <;> cases hcs
      · exact ⟨_, _, _, rfl, .inl rfl⟩
      · exact ⟨_, _, _, rfl, .inr ⟨_, _, _, rfl⟩⟩
    obtain ⟨A2, l2, p2, hv2⟩ : ∃ A l c, v4 = .slice A l c := by
      rcases DataW.trod_slice Tryz.underlying39 e4' with ⟨hcs, _⟩ | ⟨x, len', cap', _, _, _, _, hcs, _⟩ <;> cases hcs <;> exact ⟨_, _, _, rfl⟩
    subst hv1 hv2
    obtain ⟨s1, _, r1, ok1⟩ := in_files Tryz.underlying30 Tryz.underlying29 (by kernel_rfl) Tryz.underlying9 (by kernel_rfl) (by kernel_rfl) ⟨m, e0'⟩
    obtain ⟨s2, _, r2⟩ := in_bools Tryz.underlying39 Tryz.underlying4 (by kernel_rfl) ⟨m, e4'⟩
    exact ⟨(.slice A1 l1 p1, x1, x2, x3, .slice A2 l2 p2), rfl, ⟨s1, x1, x2, x3, s2⟩, r1, hnil, ok1, rfl, rfl, k2, rfl, r2⟩
  obtain ⟨rs, h1, h2, h3⟩ := hopen
  haveI : Nonempty Stp := ⟨⟨[], false, 0, false, []⟩⟩
  obtain ⟨g, hg⟩ : ∃ g : RawS → Stp, ∀ r ∈ rs, StepIs w w.heap.size r (g r) := ⟨fun r => Classical.epsilon fun x => StepIs w w.heap.size r x, fun r hr => Classical.epsilon_spec (h3 r hr)⟩
  refine ⟨rs.map g, by simp [h1], ⟨rs, h2, by simp, fun i h h' => ?_⟩, fun x hx => trivial⟩
  rw [List.getElem_map]
  exact hg _ (List.getElem_mem h)
end
end Go.Proofs.YtkoegbjnhoecoaaGreatDoor
