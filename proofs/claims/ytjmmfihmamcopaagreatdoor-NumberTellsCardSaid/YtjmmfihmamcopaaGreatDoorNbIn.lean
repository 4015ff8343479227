/- Rows of items, labels, headings and references, and a side, as they come in. -/
import Derived.Test.YtjmmfihmamcopaaGreatDoorRows
import Derived.Test.YtjmmfihmamcopaaGreatDoorRowC
import Derived.Test.YtjmmfihmamcopaaGreatDoorNbCa
import Derived.ChangeArms
import Derived.WideKeyPair
namespace Go.Proofs.YtjmmfihmamcopaaGreatDoor
open Go.RowKit Tx Nb Go.WideShapes

def I64 (n : Int) : Prop := (Lit.int .i64 n).wf = true
def ItOk (x : It) : Prop := I64 x.kind ∧ x.s.length ≤ maxLen
def LbOk (x : Lab) : Prop := x.key.length ≤ maxLen ∧ x.num.length ≤ maxLen ∧ I64 x.page
def HdOk (x : Hd) : Prop := I64 x.level ∧ x.num.length ≤ maxLen ∧ x.title.length ≤ maxLen ∧ I64 x.page
def CiOk (x : Ci) : Prop := x.key.length ≤ maxLen ∧ x.label.length ≤ maxLen ∧ x.text.length ≤ maxLen
def TxOk (x : Bs) : Prop := x.length ≤ maxLen
/-- A side as it comes in. -/
structure SdIn where
  v0 : Value
  v1 : Value
  v2 : Value
  v3 : Value
  l : List Lab
  h : List Hd
  c : List Bs
  b : List Bs
def SdOk (w : World) (x : SdIn) : Prop := RowC 3 labF w w.heap.size x.v0 x.l ∧ RowC 4 hdF w w.heap.size x.v1 x.h ∧ RowC 1 txF w w.heap.size x.v2 x.c ∧ RowC 1 txF w w.heap.size x.v3 x.b ∧ (∀ y ∈ x.l, LbOk y) ∧ (∀ y ∈ x.h, HdOk y) ∧ (∀ y ∈ x.c, TxOk y) ∧ ∀ y ∈ x.b, TxOk y
/-- What is given besides, as it comes in. -/
structure GvIn where
  v0 : Value
  v1 : Value
  c : List Ci
  i : List Bs
def GvOk (w : World) (x : GvIn) : Prop := RowC 3 ciF w w.heap.size x.v0 x.c ∧ RowC 1 txF w w.heap.size x.v1 x.i ∧ (∀ y ∈ x.c, CiOk y) ∧ ∀ y ∈ x.i, TxOk y
theorem listn2 {cs : List Value} (h : cs.length = 2) : ∃ a b, cs = [a, b] := by
  rcases cs with _ | ⟨a, _ | ⟨b, _ | ⟨c, cs⟩⟩⟩ <;> simp at h
  exact ⟨a, b, rfl⟩
theorem listn3 {cs : List Value} (h : cs.length = 3) : ∃ a b c, cs = [a, b, c] := by
  rcases cs with _ | ⟨a, _ | ⟨b, _ | ⟨c, _ | ⟨d, cs⟩⟩⟩⟩ <;> simp at h
  exact ⟨a, b, c, rfl⟩
theorem listn4 {cs : List Value} (h : cs.length = 4) : ∃ a b c d, cs = [a, b, c, d] := by
  rcases cs with _ | ⟨a, _ | ⟨b, _ | ⟨c, _ | ⟨d, _ | ⟨e, cs⟩⟩⟩⟩⟩ <;> simp at h
  exact ⟨a, b, c, d, rfl⟩
section
variable {H : Type} {enc : TypeId × Value → H} {w : World} {base : Nat} {spare : Nat → Bool} {held : Bool} {a : Option Addr} {len cap : Nat} {d : DataW H} {p : List MemPlace}
theorem read_tx : ∀ fuel cs y, DataW.trod enc Tryz.prog w base spare held fuel 9 cs = some y → ∃ x : Bs, cs = txF x ∧ TxOk x := by
  intro fuel cs y hy
  obtain ⟨s, h1, _, h2⟩ := DataW.trod_string Tryz.underlying9 hy
  exact ⟨s.data.toList, by rw [h1]; simp only [txF, vs, bs_of], by show _ ≤ _; rw [size_list]; exact h2⟩
theorem read_it : ∀ fuel cs y, DataW.trod enc Tryz.prog w base spare held fuel 59 cs = some y → ∃ x : It, cs = itF x ∧ ItOk x := by
  intro fuel cs y hy
  obtain ⟨ys, m, _, _, h1, h2, h3⟩ := DataW.trod_struct Tryz.underlying59 hy
  have hc : Tryz.prog.cellsOf 59 = 2 := by kernel_rfl
  have cs1 : Tryz.prog.cellsOf 9 = 1 := by kernel_rfl
  have ci1 : Tryz.prog.cellsOf 3 = 1 := by kernel_rfl
  rw [hc] at h1
  have e0 : DataW.trod enc Tryz.prog w base spare held m 3 ((cs.drop 0).take (Tryz.prog.cellsOf 3)) = ys[0]? := h3 0 _ rfl
  have e1 : DataW.trod enc Tryz.prog w base spare held m 9 ((cs.drop 1).take (Tryz.prog.cellsOf 9)) = ys[1]? := h3 1 _ rfl
  rw [cs1] at e1
  rw [ci1] at e0
  obtain ⟨v0, v1, rfl⟩ := listn2 h1
  rw [List.getElem?_eq_getElem (by rw [h2]; decide)] at e0 e1
  obtain ⟨x0, g0, _, k0⟩ := DataW.trod_int Tryz.underlying3 e0
  obtain ⟨x1, g1, _, k1⟩ := DataW.trod_string Tryz.underlying9 e1
  simp at g0 g1
  subst g0
  subst g1
  refine ⟨⟨x0, x1.data.toList⟩, ?_, k0, by show _ ≤ _; rw [size_list]; exact k1⟩
  simp only [itF, vs, bs_of]
theorem read_lab : ∀ fuel cs y, DataW.trod enc Tryz.prog w base spare held fuel 63 cs = some y → ∃ x : Lab, cs = labF x ∧ LbOk x := by
  intro fuel cs y hy
  obtain ⟨ys, m, _, _, h1, h2, h3⟩ := DataW.trod_struct Tryz.underlying63 hy
  have hc : Tryz.prog.cellsOf 63 = 3 := by kernel_rfl
  have cs1 : Tryz.prog.cellsOf 9 = 1 := by kernel_rfl
  have ci1 : Tryz.prog.cellsOf 3 = 1 := by kernel_rfl
  rw [hc] at h1
  have e0 : DataW.trod enc Tryz.prog w base spare held m 9 ((cs.drop 0).take (Tryz.prog.cellsOf 9)) = ys[0]? := h3 0 _ rfl
  have e1 : DataW.trod enc Tryz.prog w base spare held m 9 ((cs.drop 1).take (Tryz.prog.cellsOf 9)) = ys[1]? := h3 1 _ rfl
  have e2 : DataW.trod enc Tryz.prog w base spare held m 3 ((cs.drop 2).take (Tryz.prog.cellsOf 3)) = ys[2]? := h3 2 _ rfl
  rw [cs1] at e0 e1
  rw [ci1] at e2
  obtain ⟨v0, v1, v2, rfl⟩ := listn3 h1
  rw [List.getElem?_eq_getElem (by rw [h2]; decide)] at e0 e1 e2
  obtain ⟨x0, g0, _, k0⟩ := DataW.trod_string Tryz.underlying9 e0
  obtain ⟨x1, g1, _, k1⟩ := DataW.trod_string Tryz.underlying9 e1
  obtain ⟨x2, g2, _, k2⟩ := DataW.trod_int Tryz.underlying3 e2
  simp at g0 g1 g2
  subst g0
  subst g1
  subst g2
  refine ⟨⟨x0.data.toList, x1.data.toList, x2⟩, ?_, by show _ ≤ _; rw [size_list]; exact k0, by show _ ≤ _; rw [size_list]; exact k1, k2⟩
  simp only [labF, vs, bs_of]
theorem read_hd : ∀ fuel cs y, DataW.trod enc Tryz.prog w base spare held fuel 65 cs = some y → ∃ x : Hd, cs = hdF x ∧ HdOk x := by
  intro fuel cs y hy
  obtain ⟨ys, m, _, _, h1, h2, h3⟩ := DataW.trod_struct Tryz.underlying65 hy
  have hc : Tryz.prog.cellsOf 65 = 4 := by kernel_rfl
  have cs1 : Tryz.prog.cellsOf 9 = 1 := by kernel_rfl
  have ci1 : Tryz.prog.cellsOf 3 = 1 := by kernel_rfl
  rw [hc] at h1
  have e0 : DataW.trod enc Tryz.prog w base spare held m 3 ((cs.drop 0).take (Tryz.prog.cellsOf 3)) = ys[0]? := h3 0 _ rfl
  have e1 : DataW.trod enc Tryz.prog w base spare held m 9 ((cs.drop 1).take (Tryz.prog.cellsOf 9)) = ys[1]? := h3 1 _ rfl
  have e2 : DataW.trod enc Tryz.prog w base spare held m 9 ((cs.drop 2).take (Tryz.prog.cellsOf 9)) = ys[2]? := h3 2 _ rfl
  have e3 : DataW.trod enc Tryz.prog w base spare held m 3 ((cs.drop 3).take (Tryz.prog.cellsOf 3)) = ys[3]? := h3 3 _ rfl
  rw [cs1] at e1 e2
  rw [ci1] at e0 e3
  obtain ⟨v0, v1, v2, v3, rfl⟩ := listn4 h1
  rw [List.getElem?_eq_getElem (by rw [h2]; decide)] at e0 e1 e2 e3
  obtain ⟨x0, g0, _, k0⟩ := DataW.trod_int Tryz.underlying3 e0
  obtain ⟨x1, g1, _, k1⟩ := DataW.trod_string Tryz.underlying9 e1
  obtain ⟨x2, g2, _, k2⟩ := DataW.trod_string Tryz.underlying9 e2
  obtain ⟨x3, g3, _, k3⟩ := DataW.trod_int Tryz.underlying3 e3
  simp at g0 g1 g2 g3
  subst g0
  subst g1
  subst g2
  subst g3
  refine ⟨⟨x0, x1.data.toList, x2.data.toList, x3⟩, ?_, k0, by show _ ≤ _; rw [size_list]; exact k1, by show _ ≤ _; rw [size_list]; exact k2, k3⟩
  simp only [hdF, vs, bs_of]
theorem read_ci : ∀ fuel cs y, DataW.trod enc Tryz.prog w base spare held fuel 67 cs = some y → ∃ x : Ci, cs = ciF x ∧ CiOk x := by
  intro fuel cs y hy
  obtain ⟨ys, m, _, _, h1, h2, h3⟩ := DataW.trod_struct Tryz.underlying67 hy
  have hc : Tryz.prog.cellsOf 67 = 3 := by kernel_rfl
  have cs1 : Tryz.prog.cellsOf 9 = 1 := by kernel_rfl
  have ci1 : Tryz.prog.cellsOf 3 = 1 := by kernel_rfl
  rw [hc] at h1
  have e0 : DataW.trod enc Tryz.prog w base spare held m 9 ((cs.drop 0).take (Tryz.prog.cellsOf 9)) = ys[0]? := h3 0 _ rfl
  have e1 : DataW.trod enc Tryz.prog w base spare held m 9 ((cs.drop 1).take (Tryz.prog.cellsOf 9)) = ys[1]? := h3 1 _ rfl
  have e2 : DataW.trod enc Tryz.prog w base spare held m 9 ((cs.drop 2).take (Tryz.prog.cellsOf 9)) = ys[2]? := h3 2 _ rfl
  rw [cs1] at e0 e1 e2
  obtain ⟨v0, v1, v2, rfl⟩ := listn3 h1
  rw [List.getElem?_eq_getElem (by rw [h2]; decide)] at e0 e1 e2
  obtain ⟨x0, g0, _, k0⟩ := DataW.trod_string Tryz.underlying9 e0
  obtain ⟨x1, g1, _, k1⟩ := DataW.trod_string Tryz.underlying9 e1
  obtain ⟨x2, g2, _, k2⟩ := DataW.trod_string Tryz.underlying9 e2
  simp at g0 g1 g2
  subst g0
  subst g1
  subst g2
  refine ⟨⟨x0.data.toList, x1.data.toList, x2.data.toList⟩, ?_, by show _ ≤ _; rw [size_list]; exact k0, by show _ ≤ _; rw [size_list]; exact k1, by show _ ≤ _; rw [size_list]; exact k2⟩
  simp only [ciF, vs, bs_of]
theorem in_txs (h : DataW.Trod enc Tryz.prog w base spare held 25 (.slice a len cap) d p) :
    ∃ l : List Bs, l.length = len ∧ RowC 1 txF w w.heap.size (.slice a len cap) l ∧ ∀ x ∈ l, TxOk x :=
  haveI : Inhabited Bs := ⟨[]⟩
  rowC_open 1 txF TxOk Tryz.underlying25 (by kernel_rfl) (by decide) read_tx h
theorem in_its (h : DataW.Trod enc Tryz.prog w base spare held 22 (.slice a len cap) d p) :
    ∃ l : List It, l.length = len ∧ RowC 2 itF w w.heap.size (.slice a len cap) l ∧ ∀ x ∈ l, ItOk x :=
  haveI : Inhabited It := ⟨⟨0, []⟩⟩
  rowC_open 2 itF ItOk Tryz.underlying22 (by kernel_rfl) (by decide) read_it h
theorem in_labs (h : DataW.Trod enc Tryz.prog w base spare held 23 (.slice a len cap) d p) :
    ∃ l : List Lab, l.length = len ∧ RowC 3 labF w w.heap.size (.slice a len cap) l ∧ ∀ x ∈ l, LbOk x :=
  haveI : Inhabited Lab := ⟨⟨[], [], 0⟩⟩
  rowC_open 3 labF LbOk Tryz.underlying23 (by kernel_rfl) (by decide) read_lab h
theorem in_hds (h : DataW.Trod enc Tryz.prog w base spare held 24 (.slice a len cap) d p) :
    ∃ l : List Hd, l.length = len ∧ RowC 4 hdF w w.heap.size (.slice a len cap) l ∧ ∀ x ∈ l, HdOk x :=
  haveI : Inhabited Hd := ⟨⟨0, [], [], 0⟩⟩
  rowC_open 4 hdF HdOk Tryz.underlying24 (by kernel_rfl) (by decide) read_hd h
theorem in_cis (h : DataW.Trod enc Tryz.prog w base spare held 28 (.slice a len cap) d p) :
    ∃ l : List Ci, l.length = len ∧ RowC 3 ciF w w.heap.size (.slice a len cap) l ∧ ∀ x ∈ l, CiOk x :=
  haveI : Inhabited Ci := ⟨⟨[], [], []⟩⟩
  rowC_open 3 ciF CiOk Tryz.underlying28 (by kernel_rfl) (by decide) read_ci h
set_option maxRecDepth 100000 in
theorem in_side {r : Reach} {b0 : Nat} {v : Value} (hval : Value.okWide Tryz.prog w r b0 27 v) (h : DataW.Trod enc Tryz.prog w base spare held 27 v d p) :
    ∃ x : SdIn, v = .agg #[x.v0, x.v1, x.v2, x.v3] ∧ SdOk w x := by
  obtain ⟨cs, rfl, hs⟩ := okWide_struct Tryz.underlying27 hval
  obtain ⟨fuel, hy⟩ := h
  obtain ⟨ys, m, _, _, h1, h2, h3⟩ := DataW.trod_struct Tryz.underlying27 hy
  have hc : Tryz.prog.cellsOf 27 = 4 := by kernel_rfl
  rw [hc] at h1 hs
  have c0 : Tryz.prog.cellsOf 23 = 1 := by kernel_rfl
  have e0 : DataW.trod enc Tryz.prog w base spare held m 23 (((Value.agg cs).cells.toList.drop 0).take (Tryz.prog.cellsOf 23)) = ys[0]? := h3 0 _ rfl
  rw [c0] at e0
  have c1 : Tryz.prog.cellsOf 24 = 1 := by kernel_rfl
  have e1 : DataW.trod enc Tryz.prog w base spare held m 24 (((Value.agg cs).cells.toList.drop 1).take (Tryz.prog.cellsOf 24)) = ys[1]? := h3 1 _ rfl
  rw [c1] at e1
  have c2 : Tryz.prog.cellsOf 25 = 1 := by kernel_rfl
  have e2 : DataW.trod enc Tryz.prog w base spare held m 25 (((Value.agg cs).cells.toList.drop 2).take (Tryz.prog.cellsOf 25)) = ys[2]? := h3 2 _ rfl
  rw [c2] at e2
  have c3 : Tryz.prog.cellsOf 25 = 1 := by kernel_rfl
  have e3 : DataW.trod enc Tryz.prog w base spare held m 25 (((Value.agg cs).cells.toList.drop 3).take (Tryz.prog.cellsOf 25)) = ys[3]? := h3 3 _ rfl
  rw [c3] at e3
  obtain ⟨l⟩ := cs
  obtain ⟨v0, v1, v2, v3, rfl⟩ := listn4 (cs := l) (by simpa using hs)
  rw [List.getElem?_eq_getElem (by rw [h2]; decide)] at e0 e1 e2 e3
  have f0 : DataW.trod enc Tryz.prog w base spare held m 23 [v0] = some _ := e0
  obtain ⟨A0, l0, p0, rfl⟩ : ∃ A l c, v0 = .slice A l c := by
    rcases DataW.trod_slice Tryz.underlying23 f0 with ⟨hcs, _⟩ | ⟨x, len', cap', _, _, _, _, hcs, _⟩ <;> cases hcs <;> exact ⟨_, _, _, rfl⟩
  obtain ⟨z0, _, r0, ok0⟩ := in_labs ⟨m, f0⟩
  have f1 : DataW.trod enc Tryz.prog w base spare held m 24 [v1] = some _ := e1
  obtain ⟨A1, l1, p1, rfl⟩ : ∃ A l c, v1 = .slice A l c := by
    rcases DataW.trod_slice Tryz.underlying24 f1 with ⟨hcs, _⟩ | ⟨x, len', cap', _, _, _, _, hcs, _⟩ <;> cases hcs <;> exact ⟨_, _, _, rfl⟩
  obtain ⟨z1, _, r1, ok1⟩ := in_hds ⟨m, f1⟩
  have f2 : DataW.trod enc Tryz.prog w base spare held m 25 [v2] = some _ := e2
  obtain ⟨A2, l2, p2, rfl⟩ : ∃ A l c, v2 = .slice A l c := by
    rcases DataW.trod_slice Tryz.underlying25 f2 with ⟨hcs, _⟩ | ⟨x, len', cap', _, _, _, _, hcs, _⟩ <;> cases hcs <;> exact ⟨_, _, _, rfl⟩
  obtain ⟨z2, _, r2, ok2⟩ := in_txs ⟨m, f2⟩
  have f3 : DataW.trod enc Tryz.prog w base spare held m 25 [v3] = some _ := e3
  obtain ⟨A3, l3, p3, rfl⟩ : ∃ A l c, v3 = .slice A l c := by
    rcases DataW.trod_slice Tryz.underlying25 f3 with ⟨hcs, _⟩ | ⟨x, len', cap', _, _, _, _, hcs, _⟩ <;> cases hcs <;> exact ⟨_, _, _, rfl⟩
  obtain ⟨z3, _, r3, ok3⟩ := in_txs ⟨m, f3⟩
  exact ⟨⟨.slice A0 l0 p0, .slice A1 l1 p1, .slice A2 l2 p2, .slice A3 l3 p3, z0, z1, z2, z3⟩, rfl, r0, r1, r2, r3, ok0, ok1, ok2, ok3⟩
set_option maxRecDepth 100000 in
theorem in_given {r : Reach} {b0 : Nat} {v : Value} (hval : Value.okWide Tryz.prog w r b0 30 v) (h : DataW.Trod enc Tryz.prog w base spare held 30 v d p) :
    ∃ x : GvIn, v = .agg #[x.v0, x.v1] ∧ GvOk w x := by
  obtain ⟨cs, rfl, hs⟩ := okWide_struct Tryz.underlying30 hval
  obtain ⟨fuel, hy⟩ := h
  obtain ⟨ys, m, _, _, h1, h2, h3⟩ := DataW.trod_struct Tryz.underlying30 hy
  have hc : Tryz.prog.cellsOf 30 = 2 := by kernel_rfl
  rw [hc] at h1 hs
  have c0 : Tryz.prog.cellsOf 28 = 1 := by kernel_rfl
  have e0 : DataW.trod enc Tryz.prog w base spare held m 28 (((Value.agg cs).cells.toList.drop 0).take (Tryz.prog.cellsOf 28)) = ys[0]? := h3 0 _ rfl
  rw [c0] at e0
  have c1 : Tryz.prog.cellsOf 25 = 1 := by kernel_rfl
  have e1 : DataW.trod enc Tryz.prog w base spare held m 25 (((Value.agg cs).cells.toList.drop 1).take (Tryz.prog.cellsOf 25)) = ys[1]? := h3 1 _ rfl
  rw [c1] at e1
  obtain ⟨l⟩ := cs
  obtain ⟨v0, v1, rfl⟩ := listn2 (cs := l) (by simpa using hs)
  rw [List.getElem?_eq_getElem (by rw [h2]; decide)] at e0 e1
  have f0 : DataW.trod enc Tryz.prog w base spare held m 28 [v0] = some _ := e0
  obtain ⟨A0, l0, p0, rfl⟩ : ∃ A l c, v0 = .slice A l c := by
    rcases DataW.trod_slice Tryz.underlying28 f0 with ⟨hcs, _⟩ | ⟨x, len', cap', _, _, _, _, hcs, _⟩ <;> cases hcs <;> exact ⟨_, _, _, rfl⟩
  obtain ⟨z0, _, r0, ok0⟩ := in_cis ⟨m, f0⟩
  have f1 : DataW.trod enc Tryz.prog w base spare held m 25 [v1] = some _ := e1
  obtain ⟨A1, l1, p1, rfl⟩ : ∃ A l c, v1 = .slice A l c := by
    rcases DataW.trod_slice Tryz.underlying25 f1 with ⟨hcs, _⟩ | ⟨x, len', cap', _, _, _, _, hcs, _⟩ <;> cases hcs <;> exact ⟨_, _, _, rfl⟩
  obtain ⟨z1, _, r1, ok1⟩ := in_txs ⟨m, f1⟩
  exact ⟨⟨.slice A0 l0 p0, .slice A1 l1 p1, z0, z1⟩, rfl, r0, r1, ok0, ok1⟩
end
end Go.Proofs.YtjmmfihmamcopaaGreatDoor
