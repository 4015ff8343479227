/- stetlaw16.fixed: the calls whose answers the document fixes. -/
import Derived.Test.YtmnekomoiffebaaDoorRows
import Derived.Test.YtmnekomoiffebaaDoorKit
import Derived.Test.YtmnekomoiffebaaDoorStr
import Derived.Test.YtmnekomoiffebaaDoorShelf
import Derived.Test.YtmnekomoiffebaaDoorNmW5
import Derived.Test.YtmnekomoiffebaaDoorNmW8
import Derived.Test.YtmnekomoiffebaaDoorNmS2
import Derived.Test.YtmnekomoiffebaaDoorNmS3
import Derived.Test.YtmnekomoiffebaaDoorNmS5
import Derived.Test.YtmnekomoiffebaaDoorNmS7
import Derived.Test.YtmnekomoiffebaaDoorNmS8
import Derived.Test.YtmnekomoiffebaaDoorNmS9
namespace Go.Proofs.YtmnekomoiffebaaDoor
open Go.RowKit Go.Lib Go.Sort Tx

/-- Block g is a person's box. -/
structure Bx (w : World) (g : Nat) (p : P4) : Prop where
  blk : w.heap[g]? = some (.cells #[.string (bs p.first), .string (bs p.von), .string (bs p.last), .string (bs p.jr)] 28 (0, 0))
theorem Bx.below {w w' : World} {g : Nat} {p : P4} (h : Bx w g p) (hb : Below w.heap.size w w') : Bx w' g p := ⟨(hb.block _ (lt_of_block h.blk)).trans h.blk⟩
theorem Bx.lt {w : World} {g : Nat} {p : P4} (h : Bx w g p) : g < w.heap.size := lt_of_block h.blk
theorem Bx.cells {w : World} {g : Nat} {p : P4} (h : Bx w g p) : w.cell? ⟨g, 0, none⟩ = some (.string (bs p.first)) ∧ w.cell? ⟨g, 1, none⟩ = some (.string (bs p.von)) ∧ w.cell? ⟨g, 2, none⟩ = some (.string (bs p.last)) ∧ w.cell? ⟨g, 3, none⟩ = some (.string (bs p.jr)) := (four_cells h.blk).1
theorem Bx.new (w : World) (p : P4) : Bx (w.alloc (.cells #[.string (bs p.first), .string (bs p.von), .string (bs p.last), .string (bs p.jr)] 28)) w.heap.size p := ⟨heap_alloc_new _ _⟩
theorem via_lit {w w1 w2 : World} {o : Obj} (h : Below w.heap.size w w1) (hb : Below (w1.alloc o).heap.size (w1.alloc o) w2) : Below w.heap.size w w2 := below_via (below_via h ((Below.refl _ _).alloc (Nat.le_refl _) o)) hb
theorem lit_only {w1 w2 : World} {o : Obj} (hb : Below (w1.alloc o).heap.size (w1.alloc o) w2) : Below w1.heap.size w1 w2 := via_lit (Below.refl _ _) hb
def pA : P4 := ⟨[68, 111, 110, 97, 108, 100, 32, 69, 46], [], [75, 110, 117, 116, 104], []⟩
theorem smA : Sm pA 10000 := ⟨by decide, by decide, by decide, by decide⟩
theorem parseA (w : World) (hm : MaxL w) : Calls Tryd.prog 15 #[.string ⟨#[68, 111, 110, 97, 108, 100, 32, 69, 46, 32, 75, 110, 117, 116, 104]⟩] w fun e w' => e = .returned (pv pA) ∧ Below w.heap.size w w' := by
  have h := parse_any ⟨#[68, 111, 110, 97, 108, 100, 32, 69, 46, 32, 75, 110, 117, 116, 104]⟩ w hm (by decide)
  rw [show parse (⟨#[68, 111, 110, 97, 108, 100, 32, 69, 46, 32, 75, 110, 117, 116, 104]⟩ : ByteArray).data.toList = pA by kernel_rfl] at h
  exact h
theorem eqA (w : World) : (Op.equalIn 10000 26 (.agg #[.string (bs pA.first), .string (bs pA.von), .string (bs pA.last), .string (bs pA.jr)]) (.agg #[.string ⟨#[68, 111, 110, 97, 108, 100, 32, 69, 46]⟩, .string ⟨#[]⟩, .string ⟨#[75, 110, 117, 116, 104]⟩, .string ⟨#[]⟩])).run Tryd.prog w = .ok true w := by
  have h := eq_pers pA pA w
  rw [eqP_self, run_eql_struct] at h
  have h2 : (Op.equalIn 10000 26 (pv pA) (pv pA)).run Tryd.prog w = .ok true w := by
    generalize (Op.equalIn 10000 26 (pv pA) (pv pA)).run Tryd.prog w = r at *
    cases r with
    | ok x w2 => simp only [Result.andThen_ok] at h; injection h with h3 h4; injection h3 with h5; rw [h4, h5]
    | halt x w2 => simp [Result.andThen] at h
  exact h2
def pB : P4 := ⟨[76, 117, 100, 119, 105, 103], [118, 97, 110], [66, 101, 101, 116, 104, 111, 118, 101, 110], []⟩
theorem smB : Sm pB 10000 := ⟨by decide, by decide, by decide, by decide⟩
theorem parseB (w : World) (hm : MaxL w) : Calls Tryd.prog 15 #[.string ⟨#[76, 117, 100, 119, 105, 103, 32, 118, 97, 110, 32, 66, 101, 101, 116, 104, 111, 118, 101, 110]⟩] w fun e w' => e = .returned (pv pB) ∧ Below w.heap.size w w' := by
  have h := parse_any ⟨#[76, 117, 100, 119, 105, 103, 32, 118, 97, 110, 32, 66, 101, 101, 116, 104, 111, 118, 101, 110]⟩ w hm (by decide)
  rw [show parse (⟨#[76, 117, 100, 119, 105, 103, 32, 118, 97, 110, 32, 66, 101, 101, 116, 104, 111, 118, 101, 110]⟩ : ByteArray).data.toList = pB by kernel_rfl] at h
  exact h
theorem eqB (w : World) : (Op.equalIn 10000 26 (.agg #[.string (bs pB.first), .string (bs pB.von), .string (bs pB.last), .string (bs pB.jr)]) (.agg #[.string ⟨#[76, 117, 100, 119, 105, 103]⟩, .string ⟨#[118, 97, 110]⟩, .string ⟨#[66, 101, 101, 116, 104, 111, 118, 101, 110]⟩, .string ⟨#[]⟩])).run Tryd.prog w = .ok true w := by
  have h := eq_pers pB pB w
  rw [eqP_self, run_eql_struct] at h
  have h2 : (Op.equalIn 10000 26 (pv pB) (pv pB)).run Tryd.prog w = .ok true w := by
    generalize (Op.equalIn 10000 26 (pv pB) (pv pB)).run Tryd.prog w = r at *
    cases r with
    | ok x w2 => simp only [Result.andThen_ok] at h; injection h with h3 h4; injection h3 with h5; rw [h4, h5]
    | halt x w2 => simp [Result.andThen] at h
  exact h2
def pC : P4 := ⟨[65, 110, 110], [118, 97, 110], [68, 121, 107, 101], [74, 114, 46]⟩
theorem smC : Sm pC 10000 := ⟨by decide, by decide, by decide, by decide⟩
theorem parseC (w : World) (hm : MaxL w) : Calls Tryd.prog 15 #[.string ⟨#[118, 97, 110, 32, 68, 121, 107, 101, 44, 32, 74, 114, 46, 44, 32, 65, 110, 110]⟩] w fun e w' => e = .returned (pv pC) ∧ Below w.heap.size w w' := by
  have h := parse_any ⟨#[118, 97, 110, 32, 68, 121, 107, 101, 44, 32, 74, 114, 46, 44, 32, 65, 110, 110]⟩ w hm (by decide)
  rw [show parse (⟨#[118, 97, 110, 32, 68, 121, 107, 101, 44, 32, 74, 114, 46, 44, 32, 65, 110, 110]⟩ : ByteArray).data.toList = pC by kernel_rfl] at h
  exact h
theorem eqC (w : World) : (Op.equalIn 10000 26 (.agg #[.string (bs pC.first), .string (bs pC.von), .string (bs pC.last), .string (bs pC.jr)]) (.agg #[.string ⟨#[65, 110, 110]⟩, .string ⟨#[118, 97, 110]⟩, .string ⟨#[68, 121, 107, 101]⟩, .string ⟨#[74, 114, 46]⟩])).run Tryd.prog w = .ok true w := by
  have h := eq_pers pC pC w
  rw [eqP_self, run_eql_struct] at h
  have h2 : (Op.equalIn 10000 26 (pv pC) (pv pC)).run Tryd.prog w = .ok true w := by
    generalize (Op.equalIn 10000 26 (pv pC) (pv pC)).run Tryd.prog w = r at *
    cases r with
    | ok x w2 => simp only [Result.andThen_ok] at h; injection h with h3 h4; injection h3 with h5; rw [h4, h5]
    | halt x w2 => simp [Result.andThen] at h
  exact h2
def pD : P4 := ⟨[85, 114, 115, 117, 108, 97, 32, 75, 46], [], [76, 101, 32, 71, 117, 105, 110], []⟩
theorem smD : Sm pD 10000 := ⟨by decide, by decide, by decide, by decide⟩
theorem parseD (w : World) (hm : MaxL w) : Calls Tryd.prog 15 #[.string ⟨#[76, 101, 32, 71, 117, 105, 110, 44, 32, 85, 114, 115, 117, 108, 97, 32, 75, 46]⟩] w fun e w' => e = .returned (pv pD) ∧ Below w.heap.size w w' := by
  have h := parse_any ⟨#[76, 101, 32, 71, 117, 105, 110, 44, 32, 85, 114, 115, 117, 108, 97, 32, 75, 46]⟩ w hm (by decide)
  rw [show parse (⟨#[76, 101, 32, 71, 117, 105, 110, 44, 32, 85, 114, 115, 117, 108, 97, 32, 75, 46]⟩ : ByteArray).data.toList = pD by kernel_rfl] at h
  exact h
theorem eqD (w : World) : (Op.equalIn 10000 26 (.agg #[.string (bs pD.first), .string (bs pD.von), .string (bs pD.last), .string (bs pD.jr)]) (.agg #[.string ⟨#[85, 114, 115, 117, 108, 97, 32, 75, 46]⟩, .string ⟨#[]⟩, .string ⟨#[76, 101, 32, 71, 117, 105, 110]⟩, .string ⟨#[]⟩])).run Tryd.prog w = .ok true w := by
  have h := eq_pers pD pD w
  rw [eqP_self, run_eql_struct] at h
  have h2 : (Op.equalIn 10000 26 (pv pD) (pv pD)).run Tryd.prog w = .ok true w := by
    generalize (Op.equalIn 10000 26 (pv pD) (pv pD)).run Tryd.prog w = r at *
    cases r with
    | ok x w2 => simp only [Result.andThen_ok] at h; injection h with h3 h4; injection h3 with h5; rw [h4, h5]
    | halt x w2 => simp [Result.andThen] at h
  exact h2
theorem showC (w : World) : Calls Tryd.prog 19 #[pv pC] w fun e w' => e = .returned (.string ⟨#[118, 97, 110, 32, 68, 121, 107, 101, 44, 32, 74, 114, 46, 44, 32, 65, 110, 110]⟩) ∧ Below w.heap.size w w' := by
  have h := show_any pC w smC
  rw [show showS pC = [118, 97, 110, 32, 68, 121, 107, 101, 44, 32, 74, 114, 46, 44, 32, 65, 110, 110] by kernel_rfl] at h
  exact h
theorem shortC (w : World) : Calls Tryd.prog 21 #[pv pC] w fun e w' => e = .returned (.string ⟨#[65, 46, 32, 118, 97, 110, 32, 68, 121, 107, 101, 32, 74, 114, 46]⟩) ∧ Below w.heap.size w w' := by
  have h := short_any pC w smC
  rw [show shortS pC = [65, 46, 32, 118, 97, 110, 32, 68, 121, 107, 101, 32, 74, 114, 46] by kernel_rfl] at h
  exact h
theorem shortA (w : World) : Calls Tryd.prog 21 #[pv pA] w fun e w' => e = .returned (.string ⟨#[68, 46, 32, 69, 46, 32, 75, 110, 117, 116, 104]⟩) ∧ Below w.heap.size w w' := by
  have h := short_any pA w smA
  rw [show shortS pA = [68, 46, 32, 69, 46, 32, 75, 110, 117, 116, 104] by kernel_rfl] at h
  exact h
theorem keyD (w : World) : Calls Tryd.prog 23 #[pv pD] w fun e w' => e = .returned (.string ⟨#[108, 101, 32, 103, 117, 105, 110, 32, 117, 114, 115, 117, 108, 97, 32, 107, 46]⟩) ∧ Below w.heap.size w w' := by
  have h := key_any pD w smD
  rw [show keyS pD = [108, 101, 32, 103, 117, 105, 110, 32, 117, 114, 115, 117, 108, 97, 32, 107, 46] by kernel_rfl] at h
  exact h
theorem labelA (w : World) (g : Nat) (hg : g = w.heap.size) : Calls Tryd.prog 25 #[.slice (some ⟨g, 0, none⟩) 1 1] (w.alloc (.cells #[.string (bs pA.first), .string (bs pA.von), .string (bs pA.last), .string (bs pA.jr)] 28)) fun e w' => e = .returned (.string ⟨#[75, 110, 117]⟩) ∧ Below w.heap.size w w' := by
  subst hg
  have h0 := (rowC_lit pc_length 28 [pA] w (by decide)).rowC pc_length
  have h := label_any _ [pA] _ h0 (by decide) (by intro p hp; simp at hp; rcases hp with rfl <;> first | exact smA | exact smB | exact smC | exact smD)
  rw [show labelS [pA] = [75, 110, 117] by kernel_rfl] at h
  exact h.mono fun e w' ⟨h1, h2⟩ => ⟨h1, lit_only h2⟩
theorem label4 (w : World) (g : Nat) (hg : g = w.heap.size) : Calls Tryd.prog 25 #[.slice (some ⟨g, 0, none⟩) 4 4] (w.alloc (.cells #[.string (bs pA.first), .string (bs pA.von), .string (bs pA.last), .string (bs pA.jr), .string (bs pB.first), .string (bs pB.von), .string (bs pB.last), .string (bs pB.jr), .string (bs pC.first), .string (bs pC.von), .string (bs pC.last), .string (bs pC.jr), .string (bs pD.first), .string (bs pD.von), .string (bs pD.last), .string (bs pD.jr)] 28)) fun e w' => e = .returned (.string ⟨#[75, 66, 68, 76]⟩) ∧ Below w.heap.size w w' := by
  subst hg
  have h0 := (rowC_lit pc_length 28 [pA, pB, pC, pD] w (by decide)).rowC pc_length
  have h := label_any _ [pA, pB, pC, pD] _ h0 (by decide) (by intro p hp; simp at hp; rcases hp with rfl | rfl | rfl | rfl <;> first | exact smA | exact smB | exact smC | exact smD)
  rw [show labelS [pA, pB, pC, pD] = [75, 66, 68, 76] by kernel_rfl] at h
  exact h.mono fun e w' ⟨h1, h2⟩ => ⟨h1, lit_only h2⟩
theorem label5 (w : World) (g : Nat) (hg : g = w.heap.size) : Calls Tryd.prog 25 #[.slice (some ⟨g, 0, none⟩) 5 5] (w.alloc (.cells #[.string (bs pA.first), .string (bs pA.von), .string (bs pA.last), .string (bs pA.jr), .string (bs pB.first), .string (bs pB.von), .string (bs pB.last), .string (bs pB.jr), .string (bs pC.first), .string (bs pC.von), .string (bs pC.last), .string (bs pC.jr), .string (bs pD.first), .string (bs pD.von), .string (bs pD.last), .string (bs pD.jr), .string (bs pA.first), .string (bs pA.von), .string (bs pA.last), .string (bs pA.jr)] 28)) fun e w' => e = .returned (.string ⟨#[75, 66, 68, 43]⟩) ∧ Below w.heap.size w w' := by
  subst hg
  have h0 := (rowC_lit pc_length 28 [pA, pB, pC, pD, pA] w (by decide)).rowC pc_length
  have h := label_any _ [pA, pB, pC, pD, pA] _ h0 (by decide) (by intro p hp; simp at hp; rcases hp with rfl | rfl | rfl | rfl | rfl <;> first | exact smA | exact smB | exact smC | exact smD)
  rw [show labelS [pA, pB, pC, pD, pA] = [75, 66, 68, 43] by kernel_rfl] at h
  exact h.mono fun e w' ⟨h1, h2⟩ => ⟨h1, lit_only h2⟩
theorem label0 (w : World) : Calls Tryd.prog 25 #[.slice none 0 0] w fun e w' => e = .returned (.string ⟨#[]⟩) ∧ Below w.heap.size w w' := by
  have h := label_any (.slice none 0 0) [] w ⟨0, by simp, by decide, .inl ⟨rfl, none, rfl⟩⟩ (by decide) (by simp)
  exact h
theorem splitL (w : World) : Calls Tryd.prog 12 #[.string ⟨#[65, 32, 66, 32, 97, 110, 100, 32, 67, 32, 97, 110, 100, 32, 97, 110, 100, 32, 68, 44, 32, 69]⟩] w fun e w' => ∃ v, e = .returned v ∧ Row vs w' w'.heap.size v [[65, 32, 66], [67], [68, 44, 32, 69]] ∧ Below w.heap.size w w' := by
  have h := split_any ⟨#[65, 32, 66, 32, 97, 110, 100, 32, 67, 32, 97, 110, 100, 32, 97, 110, 100, 32, 68, 44, 32, 69]⟩ w (by decide)
  rw [show splitN (words (⟨#[65, 32, 66, 32, 97, 110, 100, 32, 67, 32, 97, 110, 100, 32, 97, 110, 100, 32, 68, 44, 32, 69]⟩ : ByteArray).data.toList) = [[65, 32, 66], [67], [68, 44, 32, 69]] by kernel_rfl] at h
  exact h.mono fun e w' ⟨v, h1, h2, h3⟩ => ⟨v, h1, h2.row, h3⟩
theorem wordsL (v : Value) (w : World) (g : Nat) (hg : g = w.heap.size) (hr : Row vs w w.heap.size v [[65, 32, 66], [67], [68, 44, 32, 69]]) :
    Calls Tryd.prog 9 #[v, .slice (some ⟨g, 0, none⟩) 3 3] (w.alloc (.cells #[.string ⟨#[65, 32, 66]⟩, .string ⟨#[67]⟩, .string ⟨#[68, 44, 32, 69]⟩] 9)) fun e w' => e = .returned (.bool true) ∧ Below w.heap.size w w' := by
  subst hg
  have h2 := row_lit vs [[65, 32, 66], [67], [68, 44, 32, 69]] w 9 (by decide)
  have h := words2_any v _ _ _ _ ((hr.alloc (Nat.le_refl _) _).more (by simp)) (h2.more (by simp)) (by decide) (by decide)
  exact h.mono fun e w' ⟨h1, n, h3⟩ => ⟨by rw [h1]; exact ret_bool (decide_eq_true rfl), by rw [h3]; exact below_drewN ((Below.refl _ _).alloc (Nat.le_refl _) _) n⟩

set_option maxRecDepth 100000 in
set_option maxHeartbeats 4000000 in
theorem fixed_any (w : World) (hm : MaxL w) : Calls Tryd.prog 17 #[] w fun e w' => e = .returned (.bool true) ∧ Below w.heap.size w w' := by
  have eA := eqA
  have eB := eqB
  have eC := eqC
  have eD := eqD
  have hgu := rGuard
  have HM := Lib.hid hm
  clear hm
  go_enter Tryd.func17, Tryd.ntmps17
  go_wp2_with fail
  refine (parseA _ HM.out).mono ?_
  rintro e w1 ⟨rfl, hb⟩
  have K := hb
  have HB := Lib.hid K
  replace HM := Lib.hid (HM.out.below K)
  clear hb K
  go_wp2_with fail
  refine (parseB _ (HM.out.alloc _)).mono ?_
  rintro e w2 ⟨rfl, hb⟩
  have xA := (Bx.new w1 pA).below hb
  have K := lit_only hb
  replace HB := Lib.hid (below_via HB.out K)
  replace HM := Lib.hid (HM.out.below K)
  clear hb K
  obtain ⟨cA0, cA1, cA2, cA3⟩ := xA.cells
  have lA := xA.lt
  go_wp2_with fail
  refine (parseC _ (HM.out.alloc _)).mono ?_
  rintro e w3 ⟨rfl, hb⟩
  clear cA0 cA1 cA2 cA3 lA
  have xB := (Bx.new w2 pB).below hb
  have K := lit_only hb
  replace xA := xA.below K
  replace HB := Lib.hid (below_via HB.out K)
  replace HM := Lib.hid (HM.out.below K)
  clear hb K
  obtain ⟨cA0, cA1, cA2, cA3⟩ := xA.cells
  have lA := xA.lt
  obtain ⟨cB0, cB1, cB2, cB3⟩ := xB.cells
  have lB := xB.lt
  go_wp2_with fail
  refine (parseD _ (HM.out.alloc _)).mono ?_
  rintro e w4 ⟨rfl, hb⟩
  clear cA0 cA1 cA2 cA3 lA cB0 cB1 cB2 cB3 lB
  have xC := (Bx.new w3 pC).below hb
  have K := lit_only hb
  replace xA := xA.below K
  replace xB := xB.below K
  replace HB := Lib.hid (below_via HB.out K)
  replace HM := Lib.hid (HM.out.below K)
  clear hb K
  obtain ⟨cA0, cA1, cA2, cA3⟩ := xA.cells
  have lA := xA.lt
  obtain ⟨cB0, cB1, cB2, cB3⟩ := xB.cells
  have lB := xB.lt
  obtain ⟨cC0, cC1, cC2, cC3⟩ := xC.cells
  have lC := xC.lt
  go_wp2_with fail
  refine (ref_any pA _).mono ?_
  rintro e w5 ⟨rfl, hb⟩
  clear cA0 cA1 cA2 cA3 lA cB0 cB1 cB2 cB3 lB cC0 cC1 cC2 cC3 lC
  have xD := (Bx.new w4 pD).below hb
  have K := lit_only hb
  replace xA := xA.below K
  replace xB := xB.below K
  replace xC := xC.below K
  replace HB := Lib.hid (below_via HB.out K)
  replace HM := Lib.hid (HM.out.below K)
  clear hb K
  obtain ⟨cA0, cA1, cA2, cA3⟩ := xA.cells
  have lA := xA.lt
  obtain ⟨cB0, cB1, cB2, cB3⟩ := xB.cells
  have lB := xB.lt
  obtain ⟨cC0, cC1, cC2, cC3⟩ := xC.cells
  have lC := xC.lt
  obtain ⟨cD0, cD1, cD2, cD3⟩ := xD.cells
  have lD := xD.lt
  go_wp2_with fail
  refine (ref_any pB _).mono ?_
  rintro e w6 ⟨rfl, hb⟩
  clear cA0 cA1 cA2 cA3 lA cB0 cB1 cB2 cB3 lB cC0 cC1 cC2 cC3 lC cD0 cD1 cD2 cD3 lD
  have K := hb
  replace xA := xA.below K
  replace xB := xB.below K
  replace xC := xC.below K
  replace xD := xD.below K
  replace HB := Lib.hid (below_via HB.out K)
  replace HM := Lib.hid (HM.out.below K)
  clear hb K
  obtain ⟨cA0, cA1, cA2, cA3⟩ := xA.cells
  have lA := xA.lt
  obtain ⟨cB0, cB1, cB2, cB3⟩ := xB.cells
  have lB := xB.lt
  obtain ⟨cC0, cC1, cC2, cC3⟩ := xC.cells
  have lC := xC.lt
  obtain ⟨cD0, cD1, cD2, cD3⟩ := xD.cells
  have lD := xD.lt
  go_wp2_with fail
  refine (ref_any pC _).mono ?_
  rintro e w7 ⟨rfl, hb⟩
  clear cA0 cA1 cA2 cA3 lA cB0 cB1 cB2 cB3 lB cC0 cC1 cC2 cC3 lC cD0 cD1 cD2 cD3 lD
  have K := hb
  replace xA := xA.below K
  replace xB := xB.below K
  replace xC := xC.below K
  replace xD := xD.below K
  replace HB := Lib.hid (below_via HB.out K)
  replace HM := Lib.hid (HM.out.below K)
  clear hb K
  obtain ⟨cA0, cA1, cA2, cA3⟩ := xA.cells
  have lA := xA.lt
  obtain ⟨cB0, cB1, cB2, cB3⟩ := xB.cells
  have lB := xB.lt
  obtain ⟨cC0, cC1, cC2, cC3⟩ := xC.cells
  have lC := xC.lt
  obtain ⟨cD0, cD1, cD2, cD3⟩ := xD.cells
  have lD := xD.lt
  go_wp2_with fail
  refine (ref_any pD _).mono ?_
  rintro e w8 ⟨rfl, hb⟩
  clear cA0 cA1 cA2 cA3 lA cB0 cB1 cB2 cB3 lB cC0 cC1 cC2 cC3 lC cD0 cD1 cD2 cD3 lD
  have K := hb
  replace xA := xA.below K
  replace xB := xB.below K
  replace xC := xC.below K
  replace xD := xD.below K
  replace HB := Lib.hid (below_via HB.out K)
  replace HM := Lib.hid (HM.out.below K)
  clear hb K
  obtain ⟨cA0, cA1, cA2, cA3⟩ := xA.cells
  have lA := xA.lt
  obtain ⟨cB0, cB1, cB2, cB3⟩ := xB.cells
  have lB := xB.lt
  obtain ⟨cC0, cC1, cC2, cC3⟩ := xC.cells
  have lC := xC.lt
  obtain ⟨cD0, cD1, cD2, cD3⟩ := xD.cells
  have lD := xD.lt
  go_wp2_with fail
  refine (splitL _).mono ?_
  rintro e w9 ⟨vs1, rfl, hrs, hb⟩
  clear cA0 cA1 cA2 cA3 lA cB0 cB1 cB2 cB3 lB cC0 cC1 cC2 cC3 lC cD0 cD1 cD2 cD3 lD
  have K := hb
  replace xA := xA.below K
  replace xB := xB.below K
  replace xC := xC.below K
  replace xD := xD.below K
  replace HB := Lib.hid (below_via HB.out K)
  replace HM := Lib.hid (HM.out.below K)
  clear hb K
  obtain ⟨cA0, cA1, cA2, cA3⟩ := xA.cells
  have lA := xA.lt
  obtain ⟨cB0, cB1, cB2, cB3⟩ := xB.cells
  have lB := xB.lt
  obtain ⟨cC0, cC1, cC2, cC3⟩ := xC.cells
  have lC := xC.lt
  obtain ⟨cD0, cD1, cD2, cD3⟩ := xD.cells
  have lD := xD.lt
  go_wp2_with fail
  refine (wordsL _ _ _ rfl hrs).mono ?_
  rintro e w10 ⟨rfl, hb⟩
  clear cA0 cA1 cA2 cA3 lA cB0 cB1 cB2 cB3 lB cC0 cC1 cC2 cC3 lC cD0 cD1 cD2 cD3 lD
  have K := hb
  replace xA := xA.below K
  replace xB := xB.below K
  replace xC := xC.below K
  replace xD := xD.below K
  replace HB := Lib.hid (below_via HB.out K)
  replace HM := Lib.hid (HM.out.below K)
  clear hb K
  obtain ⟨cA0, cA1, cA2, cA3⟩ := xA.cells
  have lA := xA.lt
  obtain ⟨cB0, cB1, cB2, cB3⟩ := xB.cells
  have lB := xB.lt
  obtain ⟨cC0, cC1, cC2, cC3⟩ := xC.cells
  have lC := xC.lt
  obtain ⟨cD0, cD1, cD2, cD3⟩ := xD.cells
  have lD := xD.lt
  clear hrs
  go_wp2_with fail
  refine (showC _).mono ?_
  rintro e w11 ⟨rfl, hb⟩
  clear cA0 cA1 cA2 cA3 lA cB0 cB1 cB2 cB3 lB cC0 cC1 cC2 cC3 lC cD0 cD1 cD2 cD3 lD
  have K := hb
  replace xA := xA.below K
  replace xB := xB.below K
  replace xC := xC.below K
  replace xD := xD.below K
  replace HB := Lib.hid (below_via HB.out K)
  replace HM := Lib.hid (HM.out.below K)
  clear hb K
  obtain ⟨cA0, cA1, cA2, cA3⟩ := xA.cells
  have lA := xA.lt
  obtain ⟨cB0, cB1, cB2, cB3⟩ := xB.cells
  have lB := xB.lt
  obtain ⟨cC0, cC1, cC2, cC3⟩ := xC.cells
  have lC := xC.lt
  obtain ⟨cD0, cD1, cD2, cD3⟩ := xD.cells
  have lD := xD.lt
  go_wp2_with fail
  refine (shortC _).mono ?_
  rintro e w12 ⟨rfl, hb⟩
  clear cA0 cA1 cA2 cA3 lA cB0 cB1 cB2 cB3 lB cC0 cC1 cC2 cC3 lC cD0 cD1 cD2 cD3 lD
  have K := hb
  replace xA := xA.below K
  replace xB := xB.below K
  replace xC := xC.below K
  replace xD := xD.below K
  replace HB := Lib.hid (below_via HB.out K)
  replace HM := Lib.hid (HM.out.below K)
  clear hb K
  obtain ⟨cA0, cA1, cA2, cA3⟩ := xA.cells
  have lA := xA.lt
  obtain ⟨cB0, cB1, cB2, cB3⟩ := xB.cells
  have lB := xB.lt
  obtain ⟨cC0, cC1, cC2, cC3⟩ := xC.cells
  have lC := xC.lt
  obtain ⟨cD0, cD1, cD2, cD3⟩ := xD.cells
  have lD := xD.lt
  go_wp2_with fail
  refine (shortA _).mono ?_
  rintro e w13 ⟨rfl, hb⟩
  clear cA0 cA1 cA2 cA3 lA cB0 cB1 cB2 cB3 lB cC0 cC1 cC2 cC3 lC cD0 cD1 cD2 cD3 lD
  have K := hb
  replace xA := xA.below K
  replace xB := xB.below K
  replace xC := xC.below K
  replace xD := xD.below K
  replace HB := Lib.hid (below_via HB.out K)
  replace HM := Lib.hid (HM.out.below K)
  clear hb K
  obtain ⟨cA0, cA1, cA2, cA3⟩ := xA.cells
  have lA := xA.lt
  obtain ⟨cB0, cB1, cB2, cB3⟩ := xB.cells
  have lB := xB.lt
  obtain ⟨cC0, cC1, cC2, cC3⟩ := xC.cells
  have lC := xC.lt
  obtain ⟨cD0, cD1, cD2, cD3⟩ := xD.cells
  have lD := xD.lt
  go_wp2_with fail
  refine (keyD _).mono ?_
  rintro e w14 ⟨rfl, hb⟩
  clear cA0 cA1 cA2 cA3 lA cB0 cB1 cB2 cB3 lB cC0 cC1 cC2 cC3 lC cD0 cD1 cD2 cD3 lD
  have K := hb
  replace xA := xA.below K
  replace xB := xB.below K
  replace xC := xC.below K
  replace xD := xD.below K
  replace HB := Lib.hid (below_via HB.out K)
  replace HM := Lib.hid (HM.out.below K)
  clear hb K
  obtain ⟨cA0, cA1, cA2, cA3⟩ := xA.cells
  have lA := xA.lt
  obtain ⟨cB0, cB1, cB2, cB3⟩ := xB.cells
  have lB := xB.lt
  obtain ⟨cC0, cC1, cC2, cC3⟩ := xC.cells
  have lC := xC.lt
  obtain ⟨cD0, cD1, cD2, cD3⟩ := xD.cells
  have lD := xD.lt
  go_wp2_with fail
  refine (labelA _ _ rfl).mono ?_
  rintro e w15 ⟨rfl, hb⟩
  clear cA0 cA1 cA2 cA3 lA cB0 cB1 cB2 cB3 lB cC0 cC1 cC2 cC3 lC cD0 cD1 cD2 cD3 lD
  have K := hb
  replace xA := xA.below K
  replace xB := xB.below K
  replace xC := xC.below K
  replace xD := xD.below K
  replace HB := Lib.hid (below_via HB.out K)
  replace HM := Lib.hid (HM.out.below K)
  clear hb K
  obtain ⟨cA0, cA1, cA2, cA3⟩ := xA.cells
  have lA := xA.lt
  obtain ⟨cB0, cB1, cB2, cB3⟩ := xB.cells
  have lB := xB.lt
  obtain ⟨cC0, cC1, cC2, cC3⟩ := xC.cells
  have lC := xC.lt
  obtain ⟨cD0, cD1, cD2, cD3⟩ := xD.cells
  have lD := xD.lt
  go_wp2_with fail
  refine (label4 _ _ rfl).mono ?_
  rintro e w16 ⟨rfl, hb⟩
  clear cA0 cA1 cA2 cA3 lA cB0 cB1 cB2 cB3 lB cC0 cC1 cC2 cC3 lC cD0 cD1 cD2 cD3 lD
  have K := hb
  replace xA := xA.below K
  replace xB := xB.below K
  replace xC := xC.below K
  replace xD := xD.below K
  replace HB := Lib.hid (below_via HB.out K)
  replace HM := Lib.hid (HM.out.below K)
  clear hb K
  obtain ⟨cA0, cA1, cA2, cA3⟩ := xA.cells
  have lA := xA.lt
  obtain ⟨cB0, cB1, cB2, cB3⟩ := xB.cells
  have lB := xB.lt
  obtain ⟨cC0, cC1, cC2, cC3⟩ := xC.cells
  have lC := xC.lt
  obtain ⟨cD0, cD1, cD2, cD3⟩ := xD.cells
  have lD := xD.lt
  go_wp2_with fail
  refine (label5 _ _ rfl).mono ?_
  rintro e w17 ⟨rfl, hb⟩
  clear cA0 cA1 cA2 cA3 lA cB0 cB1 cB2 cB3 lB cC0 cC1 cC2 cC3 lC cD0 cD1 cD2 cD3 lD
  have K := hb
  replace xA := xA.below K
  replace xB := xB.below K
  replace xC := xC.below K
  replace xD := xD.below K
  replace HB := Lib.hid (below_via HB.out K)
  replace HM := Lib.hid (HM.out.below K)
  clear hb K
  obtain ⟨cA0, cA1, cA2, cA3⟩ := xA.cells
  have lA := xA.lt
  obtain ⟨cB0, cB1, cB2, cB3⟩ := xB.cells
  have lB := xB.lt
  obtain ⟨cC0, cC1, cC2, cC3⟩ := xC.cells
  have lC := xC.lt
  obtain ⟨cD0, cD1, cD2, cD3⟩ := xD.cells
  have lD := xD.lt
  go_wp2_with fail
  refine (label0 _).mono ?_
  rintro e w18 ⟨rfl, hb⟩
  clear cA0 cA1 cA2 cA3 lA cB0 cB1 cB2 cB3 lB cC0 cC1 cC2 cC3 lC cD0 cD1 cD2 cD3 lD
  have K := hb
  replace xA := xA.below K
  replace xB := xB.below K
  replace xC := xC.below K
  replace xD := xD.below K
  replace HB := Lib.hid (below_via HB.out K)
  replace HM := Lib.hid (HM.out.below K)
  clear hb K
  obtain ⟨cA0, cA1, cA2, cA3⟩ := xA.cells
  have lA := xA.lt
  obtain ⟨cB0, cB1, cB2, cB3⟩ := xB.cells
  have lB := xB.lt
  obtain ⟨cC0, cC1, cC2, cC3⟩ := xC.cells
  have lC := xC.lt
  obtain ⟨cD0, cD1, cD2, cD3⟩ := xD.cells
  have lD := xD.lt
  go_wp2_with fail
  go_ret
  exact ⟨rfl, HB.out⟩
end Go.Proofs.YtmnekomoiffebaaDoor
