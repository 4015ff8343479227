/- The walks of name.head, whole, Show; of stetref16.Show; of Ref; of stetref02.Words. -/
import Derived.Test.YtmnekomoiffebaaDoorRows
import Derived.Test.YtmnekomoiffebaaDoorKit
import Derived.Test.YtmnekomoiffebaaDoorStr
import Derived.Test.YtmnekomoiffebaaDoorShelf
import Derived.Test.YtmnekomoiffebaaDoorNmW1
import Derived.Test.YtmnekomoiffebaaDoorNmW2
import Derived.Test.YtmnekomoiffebaaDoorNmW3
import Derived.Test.YtmnekomoiffebaaDoorNmW6
import Derived.Test.YtmnekomoiffebaaDoorNmW7
import Derived.Test.YtmnekomoiffebaaDoorNmR1
import Derived.Test.YtmnekomoiffebaaDoorNmS1
namespace Go.Proofs.YtmnekomoiffebaaDoor
open Go.RowKit Go.Lib Go.Sort Tx

theorem bs_take (l : Bs) (n : Nat) : (bs l).extract 0 n = bs (l.take n) := by rw [bs_extract']; rfl
/-- '+' of two texts. -/
theorem catS (x y : ByteArray) (a b : Bs) (hx : x = bs a) (hy : y = bs b) (h : a.length + b.length < 10000000) (w : World) : (Op.stringOp .add x y).run Tryd.prog w = .ok (.string (bs (a ++ b))) w := by
  subst hx hy
  rw [run_string_add_sum w _ _ (by rw [bs_size, bs_size]; omega), bs_append]
theorem ret_bs {x : ByteArray} {l : Bs} (h : x = bs l) : Ending.returned (.string x) = .returned (vs l) := by rw [h]
theorem ext_min (x : Bs) (n : Nat) : (bs x).extract 0 (min (n : Int) ((bs x).size : Int)).toNat = bs (x.take n) := by
  rw [bs_take, bs_size]
  rcases Nat.le_total n x.length with h | h
  · rw [show (min (n : Int) (x.length : Int)).toNat = n by omega]
  · rw [show (min (n : Int) (x.length : Int)).toNat = x.length by omega, List.take_of_length_le (Nat.le_refl _), List.take_of_length_le h]
set_option maxHeartbeats 400000 in
theorem head_any (x : Bs) (z : Int) (w : World) (h0 : 0 ≤ z) (h1 : z < 1000) (_hx : x.length < 1000000) :
    Calls Tryd.prog 43 #[.string (bs x), .int .i64 z] w fun e w' => e = .returned (vs (x.take z.toNat)) ∧ w = w' := by
  obtain ⟨n, rfl⟩ := Int.eq_ofNat_of_zero_le h0
  rw [Int.toNat_natCast]
  have HB := Lib.hid (ext_min x n)
  go_enter Tryd.func43, Tryd.ntmps43
  go_wp2_with fail
  go_ret
  exact ⟨ret_bs HB.out, rfl⟩

/-- A row that was laid just now: its cells, free to be written. -/
theorem lit_cells (l : List Bs) (w : World) (e : TypeId) (g : Nat) (hg : g = w.heap.size) : ∀ j (h : j < l.length), (w.alloc (.cells (l.map vs).toArray e)).cell? ⟨g, j, none⟩ = some (vs l[j]) ∧ (w.alloc (.cells (l.map vs).toArray e)).frozen? ⟨g, j, none⟩ = false := by
  subst hg
  intro j hj
  have hb := heap_alloc_new w (.cells (l.map vs).toArray e)
  refine ⟨?_, by unfold World.frozen?; rw [hb]; simp⟩
  rw [cell_of_row _ w.heap.size j _ e (0, 0) hb]
  simp [hj]
theorem whole_at (l : List Bs) (w w1 : World) (g : Nat) (hc : ∀ j (h : j < l.length), w1.cell? ⟨g, j, none⟩ = some (vs l[j]) ∧ w1.frozen? ⟨g, j, none⟩ = false) (hg : w.heap.size ≤ g) (hlt : g < w1.heap.size) (hb0 : Below w.heap.size w w1) (hl : l.length < 1000) (hs : (l.map List.length).sum < 500000) :
    Calls Tryd.prog 42 #[.slice (some ⟨g, 0, none⟩) l.length l.length] w1 fun e w' => e = .returned (vs (Tx.join (ne l))) ∧ Below w.heap.size w w' := by
  have hnl := ne_length l
  have hns := ne_sum l
  have hj := join_length (ne l)
  have HD := Lib.hid (del_any 46 empty2_any (enters_of Tryd.func46 (by kernel_rfl) rfl) g l.length w.heap.size l w1 hc hg hlt (Nat.le_refl _) (by simp only [maxLen]; omega))
  clear hc
  go_enter Tryd.func42, Tryd.ntmps42
  go_wp2_with fail
  refine HD.out.mono ?_
  rintro e w2 ⟨v, rfl, hr, hb1⟩
  have hz := hb0.size
  have hz2 := hb1.size
  go_wp2_with fail
  refine (join_any v _ w2 hr (by omega) (by omega)).mono ?_
  rintro e w3 ⟨rfl, hb2⟩
  go_wp2_with fail
  go_ret
  exact ⟨rfl, hb0.trans (hb1.trans (hb2.mono (Nat.le_trans hz hz2)))⟩
theorem whole_any (l : List Bs) (w : World) (g : Nat) (hg : g = w.heap.size) (hl : l.length < 1000) (hs : (l.map List.length).sum < 500000) :
    Calls Tryd.prog 42 #[.slice (some ⟨g, 0, none⟩) l.length l.length] (w.alloc (.cells (l.map vs).toArray 9)) fun e w' => e = .returned (vs (Tx.join (ne l))) ∧ Below w.heap.size w w' :=
  whole_at l w _ g (lit_cells l w _ g hg) (Nat.le_of_eq hg.symm) (by rw [World.size_alloc]; omega) ((Below.refl _ _).alloc (Nat.le_refl _) _) hl hs

/-- Bounds of a name's parts. -/
structure Sm (p : P4) (n : Nat) : Prop where
  first : p.first.length < n
  von : p.von.length < n
  last : p.last.length < n
  jr : p.jr.length < n
theorem emp (x : Bs) : (bs x).toList.isEmpty = x.isEmpty := by rw [toList_bs]

theorem whole_one (x : Bs) : Tx.join (ne [x]) = x := by
  rw [ne_one]
  split
  · rename_i h; rw [h]; rfl
  · exact join_one x
theorem whole1_any (x : Bs) (w : World) (g : Nat) (hg : g = w.heap.size) (hx : x.length < 100000) :
    Calls Tryd.prog 42 #[.slice (some ⟨g, 0, none⟩) 1 1] (w.alloc (.cells #[.string (bs x)] 9)) fun e w' => e = .returned (vs x) ∧ Below w.heap.size w w' := by
  have := whole_any [x] w g hg (by simp) (by simp; omega)
  rw [whole_one] at this
  exact this

theorem k32 : (⟨#[32]⟩ : ByteArray) = bs [32] := rfl
theorem k442 : (⟨#[44, 32]⟩ : ByteArray) = bs [44, 32] := rfl
theorem k0 : (⟨#[]⟩ : ByteArray) = bs [] := rfl

set_option maxHeartbeats 2000000 in
theorem show_any (p : P4) (w : World) (hp : Sm p 10000) :
    Calls Tryd.prog 19 #[pv p] w fun e w' => e = .returned (vs (showS p)) ∧ Below w.heap.size w w' := by
  obtain ⟨f, v, l, j⟩ := p
  obtain ⟨h1, h2, h3, h4⟩ := hp
  simp only at h1 h2 h3 h4
  by_cases hv : v = [] <;> by_cases hj : j = []
  · subst hv
    subst hj
    have HT : Hid (((⟨#[]⟩ : ByteArray) ++ (bs l ++ (⟨#[44, 32]⟩ : ByteArray))) ++ bs f = bs (showS ⟨f, [], l, []⟩)) := by show _ = _; simp only [k442, k0, bs_append, showS, if_pos trivial] <;> simp
    have zf : (bs f).size < 10000 := by rw [bs_size]; exact h1
    have zl : (bs l).size < 10000 := by rw [bs_size]; exact h3
    have z0 : (bs []).size < 10000 := by decide
    have e0 : (bs []).toList.isEmpty = true := by rw [emp]; rfl
    go_enter Tryd.func19, Tryd.ntmps19
    go_wp2_with fail
    refine (whole1_any [] _ _ (by simp) (by first | (simp; done) | omega)).mono ?_
    rintro e w2 ⟨rfl, hb⟩
    have e2 : w2.heap[w.heap.size]? = some (.cells #[.string (bs f), .string (bs []), .string (bs l), .string (bs [])] 28 (0, 0)) := (hb.block _ (by simp)).trans (heap_alloc_new w _)
    obtain ⟨⟨f0, f1, f2, f3⟩, _⟩ := four_cells e2
    clear e2
    go_wp2_with fail
    go_ret
    exact ⟨ret_bs HT.out, ((Below.refl _ _).alloc (Nat.le_refl _) _).trans (hb.mono (by simp))⟩
  · subst hv
    have ej : (bs j).toList.isEmpty = false := by rw [emp]; cases j <;> simp at hj ⊢
    have HT : Hid ((((⟨#[]⟩ : ByteArray) ++ (bs l ++ (⟨#[44, 32]⟩ : ByteArray))) ++ (bs j ++ (⟨#[44, 32]⟩ : ByteArray))) ++ bs f = bs (showS ⟨f, [], l, j⟩)) := by show _ = _; simp only [k442, k0, bs_append, showS, if_pos trivial, if_neg hj] <;> simp
    clear hj
    have zf : (bs f).size < 10000 := by rw [bs_size]; exact h1
    have zl : (bs l).size < 10000 := by rw [bs_size]; exact h3
    have zj : (bs j).size < 10000 := by rw [bs_size]; exact h4
    have z0 : (bs []).size < 10000 := by decide
    have e0 : (bs []).toList.isEmpty = true := by rw [emp]; rfl
    go_enter Tryd.func19, Tryd.ntmps19
    go_wp2_with fail
    refine (whole1_any [] _ _ (by simp) (by first | (simp; done) | omega)).mono ?_
    rintro e w2 ⟨rfl, hb⟩
    have e2 : w2.heap[w.heap.size]? = some (.cells #[.string (bs f), .string (bs []), .string (bs l), .string (bs j)] 28 (0, 0)) := (hb.block _ (by simp)).trans (heap_alloc_new w _)
    obtain ⟨⟨f0, f1, f2, f3⟩, _⟩ := four_cells e2
    clear e2
    go_wp2_with fail
    go_ret
    exact ⟨ret_bs HT.out, ((Below.refl _ _).alloc (Nat.le_refl _) _).trans (hb.mono (by simp))⟩
  · have ev : (bs v).toList.isEmpty = false := by rw [emp]; cases v <;> simp at hv ⊢
    subst hj
    have HT : Hid (((bs v ++ (⟨#[32]⟩ : ByteArray)) ++ (bs l ++ (⟨#[44, 32]⟩ : ByteArray))) ++ bs f = bs (showS ⟨f, v, l, []⟩)) := by show _ = _; simp only [k32, k442, bs_append, showS, if_neg hv, if_pos trivial] <;> simp
    clear hv
    have zf : (bs f).size < 10000 := by rw [bs_size]; exact h1
    have zv : (bs v).size < 10000 := by rw [bs_size]; exact h2
    have zl : (bs l).size < 10000 := by rw [bs_size]; exact h3
    have z0 : (bs []).size < 10000 := by decide
    have e0 : (bs []).toList.isEmpty = true := by rw [emp]; rfl
    go_enter Tryd.func19, Tryd.ntmps19
    go_wp2_with fail
    refine (whole1_any v _ _ (by simp) (by first | (simp; done) | omega)).mono ?_
    rintro e w2 ⟨rfl, hb⟩
    have e2 : w2.heap[w.heap.size]? = some (.cells #[.string (bs f), .string (bs v), .string (bs l), .string (bs [])] 28 (0, 0)) := (hb.block _ (by simp)).trans (heap_alloc_new w _)
    obtain ⟨⟨f0, f1, f2, f3⟩, _⟩ := four_cells e2
    clear e2
    go_wp2_with fail
    go_ret
    exact ⟨ret_bs HT.out, ((Below.refl _ _).alloc (Nat.le_refl _) _).trans (hb.mono (by simp))⟩
  · have ev : (bs v).toList.isEmpty = false := by rw [emp]; cases v <;> simp at hv ⊢
    have ej : (bs j).toList.isEmpty = false := by rw [emp]; cases j <;> simp at hj ⊢
    have HT : Hid ((((bs v ++ (⟨#[32]⟩ : ByteArray)) ++ (bs l ++ (⟨#[44, 32]⟩ : ByteArray))) ++ (bs j ++ (⟨#[44, 32]⟩ : ByteArray))) ++ bs f = bs (showS ⟨f, v, l, j⟩)) := by show _ = _; simp only [k32, k442, bs_append, showS, if_neg hv, if_neg hj] <;> simp
    clear hv
    clear hj
    have zf : (bs f).size < 10000 := by rw [bs_size]; exact h1
    have zv : (bs v).size < 10000 := by rw [bs_size]; exact h2
    have zl : (bs l).size < 10000 := by rw [bs_size]; exact h3
    have zj : (bs j).size < 10000 := by rw [bs_size]; exact h4
    go_enter Tryd.func19, Tryd.ntmps19
    go_wp2_with fail
    refine (whole1_any v _ _ (by simp) (by first | (simp; done) | omega)).mono ?_
    rintro e w2 ⟨rfl, hb⟩
    have e2 : w2.heap[w.heap.size]? = some (.cells #[.string (bs f), .string (bs v), .string (bs l), .string (bs j)] 28 (0, 0)) := (hb.block _ (by simp)).trans (heap_alloc_new w _)
    obtain ⟨⟨f0, f1, f2, f3⟩, _⟩ := four_cells e2
    clear e2
    go_wp2_with fail
    go_ret
    exact ⟨ret_bs HT.out, ((Below.refl _ _).alloc (Nat.le_refl _) _).trans (hb.mono (by simp))⟩

set_option maxHeartbeats 2000000 in
theorem rShow_any (p : P4) (w : World) (hp : Sm p 10000) :
    Calls Tryd.prog 20 #[pv p] w fun e w' => e = .returned (vs (showS p)) ∧ Below w.heap.size w w' := by
  obtain ⟨f, v, l, j⟩ := p
  obtain ⟨h1, h2, h3, h4⟩ := hp
  simp only at h1 h2 h3 h4
  by_cases hv : v = [] <;> by_cases hj : j = []
  · subst hv
    subst hj
    have HT : Hid ((bs l ++ (⟨#[44, 32]⟩ : ByteArray)) ++ bs f = bs (showS ⟨f, [], l, []⟩)) := by show _ = _; simp only [k442, bs_append, showS, if_pos trivial] <;> simp
    have zf : (bs f).size < 10000 := by rw [bs_size]; exact h1
    have zl : (bs l).size < 10000 := by rw [bs_size]; exact h3
    have z0 : (bs []).size < 10000 := by decide
    have e0 : (bs []).toList.isEmpty = true := by rw [emp]; rfl
    go_enter Tryd.func20, Tryd.ntmps20
    go_wp2_with fail
    go_ret
    exact ⟨ret_bs HT.out, (Below.refl _ _).alloc (Nat.le_refl _) _⟩
  · subst hv
    have ej : (bs j).toList.isEmpty = false := by rw [emp]; cases j <;> simp at hj ⊢
    have HT : Hid (((bs l ++ (⟨#[44, 32]⟩ : ByteArray)) ++ (bs j ++ (⟨#[44, 32]⟩ : ByteArray))) ++ bs f = bs (showS ⟨f, [], l, j⟩)) := by show _ = _; simp only [k442, bs_append, showS, if_pos trivial, if_neg hj] <;> simp
    clear hj
    have zf : (bs f).size < 10000 := by rw [bs_size]; exact h1
    have zl : (bs l).size < 10000 := by rw [bs_size]; exact h3
    have zj : (bs j).size < 10000 := by rw [bs_size]; exact h4
    have z0 : (bs []).size < 10000 := by decide
    have e0 : (bs []).toList.isEmpty = true := by rw [emp]; rfl
    go_enter Tryd.func20, Tryd.ntmps20
    go_wp2_with fail
    go_ret
    exact ⟨ret_bs HT.out, (Below.refl _ _).alloc (Nat.le_refl _) _⟩
  · have ev : (bs v).toList.isEmpty = false := by rw [emp]; cases v <;> simp at hv ⊢
    subst hj
    have HT : Hid ((bs v ++ (⟨#[32]⟩ : ByteArray) ++ (bs l ++ (⟨#[44, 32]⟩ : ByteArray))) ++ bs f = bs (showS ⟨f, v, l, []⟩)) := by show _ = _; simp only [k32, k442, bs_append, showS, if_neg hv, if_pos trivial] <;> simp
    clear hv
    have zf : (bs f).size < 10000 := by rw [bs_size]; exact h1
    have zv : (bs v).size < 10000 := by rw [bs_size]; exact h2
    have zl : (bs l).size < 10000 := by rw [bs_size]; exact h3
    have z0 : (bs []).size < 10000 := by decide
    have e0 : (bs []).toList.isEmpty = true := by rw [emp]; rfl
    go_enter Tryd.func20, Tryd.ntmps20
    go_wp2_with fail
    go_ret
    exact ⟨ret_bs HT.out, (Below.refl _ _).alloc (Nat.le_refl _) _⟩
  · have ev : (bs v).toList.isEmpty = false := by rw [emp]; cases v <;> simp at hv ⊢
    have ej : (bs j).toList.isEmpty = false := by rw [emp]; cases j <;> simp at hj ⊢
    have HT : Hid (((bs v ++ (⟨#[32]⟩ : ByteArray) ++ (bs l ++ (⟨#[44, 32]⟩ : ByteArray))) ++ (bs j ++ (⟨#[44, 32]⟩ : ByteArray))) ++ bs f = bs (showS ⟨f, v, l, j⟩)) := by show _ = _; simp only [k32, k442, bs_append, showS, if_neg hv, if_neg hj] <;> simp
    clear hv
    clear hj
    have zf : (bs f).size < 10000 := by rw [bs_size]; exact h1
    have zv : (bs v).size < 10000 := by rw [bs_size]; exact h2
    have zl : (bs l).size < 10000 := by rw [bs_size]; exact h3
    have zj : (bs j).size < 10000 := by rw [bs_size]; exact h4
    go_enter Tryd.func20, Tryd.ntmps20
    go_wp2_with fail
    go_ret
    exact ⟨ret_bs HT.out, (Below.refl _ _).alloc (Nat.le_refl _) _⟩

end Go.Proofs.YtmnekomoiffebaaDoor
