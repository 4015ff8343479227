/- stetlaw10.Same, of what is the same. -/
import Derived.Test.YtjmmfihmamcopaaDoorNbE3
namespace Go.Proofs.YtjmmfihmamcopaaDoor
open Go.RowKit Tx Nb

theorem rows_bs {w : World} {B : Nat} {v : Value} {l : List Bs} (h : RowC 1 txF w B v l) : Row vs w B v l := h.row
set_option maxRecDepth 100000 in
set_option maxHeartbeats 16000000 in
theorem same_any {w : World} (a1 a2 a3 a4 b1 b2 b3 b4 : Value) (l : List Lab) (h : List Hd) (c b : List Bs) (ha1 : RowC 3 labF w w.heap.size a1 l) (ha2 : RowC 4 hdF w w.heap.size a2 h) (ha3 : RowC 1 txF w w.heap.size a3 c) (ha4 : RowC 1 txF w w.heap.size a4 b)
    (hb1 : RowC 3 labF w w.heap.size b1 l) (hb2 : RowC 4 hdF w w.heap.size b2 h) (hb3 : RowC 1 txF w w.heap.size b3 c) (hb4 : RowC 1 txF w w.heap.size b4 b) (_n1 : l.length < 1000000) (_n2 : h.length < 1000000) (n3 : c.length < 1000000) (n4 : b.length < 1000000) :
    Calls Tryd.prog 12 #[.agg #[a1, a2, a3, a4], .agg #[b1, b2, b3, b4]] w fun e w' => e = .returned (.bool true) ∧ Below w.heap.size w w' := by
  obtain ⟨A1, c1, rfl, -⟩ := ha1.shape
  obtain ⟨A2, c2, rfl, -⟩ := ha2.shape
  obtain ⟨A3, c3, rfl, -⟩ := ha3.shape
  obtain ⟨A4, c4, rfl, -⟩ := ha4.shape
  obtain ⟨B1, d1, rfl, -⟩ := hb1.shape
  obtain ⟨B2, d2, rfl, -⟩ := hb2.shape
  obtain ⟨B3, d3, rfl, -⟩ := hb3.shape
  obtain ⟨B4, d4, rfl, -⟩ := hb4.shape
  obtain ⟨W, hW⟩ : ∃ W, W = (w.alloc (.cells #[.slice A1 l.length c1, .slice A2 h.length c2, .slice A3 c.length c3, .slice A4 b.length c4] 45)).alloc (.cells #[.slice B1 l.length d1, .slice B2 h.length d2, .slice B3 c.length d3, .slice B4 b.length d4] 45) := ⟨_, rfl⟩
  have hbW : Below w.heap.size w W := by rw [hW]; exact ((Below.refl _ _).alloc (Nat.le_refl _) _).alloc (by simp) _
  have g0 : W.heap[w.heap.size]? = some (.cells #[.slice A1 l.length c1, .slice A2 h.length c2, .slice A3 c.length c3, .slice A4 b.length c4] 45 (0, 0)) := by
    rw [hW, Below.heap_alloc _ _ _ (by simp)]
    exact heap_alloc_new w _
  have g1 : W.heap[w.heap.size + 1]? = some (.cells #[.slice B1 l.length d1, .slice B2 h.length d2, .slice B3 c.length d3, .slice B4 b.length d4] 45 (0, 0)) := by
    rw [hW]
    have := heap_alloc_new (w.alloc (.cells #[.slice A1 l.length c1, .slice A2 h.length c2, .slice A3 c.length c3, .slice A4 b.length c4] 45)) (.cells #[.slice B1 l.length d1, .slice B2 h.length d2, .slice B3 c.length d3, .slice B4 b.length d4] 45)
    simpa using this
  have e0 : W.cell? ⟨w.heap.size, 0, none⟩ = some (.slice A1 l.length c1) := by rw [Lib.cell_of_heap g0]; rfl
  have e1 : W.cell? ⟨w.heap.size, 1, none⟩ = some (.slice A2 h.length c2) := by rw [Lib.cell_of_heap g0]; rfl
  have e2 : W.cell? ⟨w.heap.size, 2, none⟩ = some (.slice A3 c.length c3) := by rw [Lib.cell_of_heap g0]; rfl
  have e3 : W.cell? ⟨w.heap.size, 3, none⟩ = some (.slice A4 b.length c4) := by rw [Lib.cell_of_heap g0]; rfl
  have e4 : W.cell? ⟨w.heap.size + 1, 0, none⟩ = some (.slice B1 l.length d1) := by rw [Lib.cell_of_heap g1]; rfl
  have e5 : W.cell? ⟨w.heap.size + 1, 1, none⟩ = some (.slice B2 h.length d2) := by rw [Lib.cell_of_heap g1]; rfl
  have e6 : W.cell? ⟨w.heap.size + 1, 2, none⟩ = some (.slice B3 c.length d3) := by rw [Lib.cell_of_heap g1]; rfl
  have e7 : W.cell? ⟨w.heap.size + 1, 3, none⟩ = some (.slice B4 b.length d4) := by rw [Lib.cell_of_heap g1]; rfl
  obtain ⟨_, _, qe, _, _, z1⟩ := (ha1.step hbW).shape
  injection qe with q1 q2 q3; subst q1 q3
  obtain ⟨_, _, qe, _, _, z2⟩ := (hb1.step hbW).shape
  injection qe with q1 q2 q3; subst q1 q3
  obtain ⟨_, _, qe, _, _, z3⟩ := (ha2.step hbW).shape
  injection qe with q1 q2 q3; subst q1 q3
  obtain ⟨_, _, qe, _, _, z4⟩ := (hb2.step hbW).shape
  injection qe with q1 q2 q3; subst q1 q3
  have Z1 := Lib.hid z1
  have Z2 := Lib.hid z2
  have Y1 := Lib.hid z3
  have Y2 := Lib.hid z4
  have HW1 := Lib.hid (fun n => words2_any _ _ c c (W.drewN n) (rows_bs ((ha3.step hbW).step (below_of_drewN n))) (rows_bs ((hb3.step hbW).step (below_of_drewN n))) n3 n3)
  have HW2 := Lib.hid (fun n => words2_any _ _ b b (W.drewN n) (rows_bs ((ha4.step hbW).step (below_of_drewN n))) (rows_bs ((hb4.step hbW).step (below_of_drewN n))) n4 n4)
  have HBW := Lib.hid hbW
  have HWW := Lib.hid hW
  have hl2 : ((l.length : Int) != (l.length : Int)) = false := by simp
  have hh2 : ((h.length : Int) != (h.length : Int)) = false := by simp
  rw [show decide (c = c) = true by simp] at HW1
  rw [show decide (b = b) = true by simp] at HW2
  clear z1 z2 z3 z4 ha1 ha2 ha3 ha4 hb1 hb2 hb3 hb4 g0 g1 hbW
  rw [hW] at e0 e1 e2 e3 e4 e5 e6 e7
  clear hW
  go_enter Tryd.func12, Tryd.ntmps12
  go_upto_block 0 with fail
  rw [← HWW.out] at e0 e1 e2 e3 e4 e5 e6 e7 ⊢
  go_cut [5] (fun _i wx => ∃ n, wx = W.drewN n)
  case first =>
    go_wp2_with fail
    go_loopw [5] (fun i wr => ∃ j n : Nat, j ≤ l.length ∧ i = .int .i64 j ∧ wr = W.drewN n) (fun i _ => l.length - (intOf i).toNat)
    case atStart => exact ⟨0, 0, Nat.zero_le _, rfl, rfl⟩
    case round =>
      obtain ⟨j, n2, hj, rfl, rfl⟩ := hrel
      by_cases hjt : j < l.length
      · obtain ⟨g3, o3, rfl, hg3, hc3⟩ := Z1.out (by intro e; rw [e] at hjt; simp at hjt)
        obtain ⟨g4, o4, rfl, hg4, hc4⟩ := Z2.out (by intro e; rw [e] at hjt; simp at hjt)
        have x0 : W.cell? ⟨g3, o3 + j * 3, none⟩ = some (vs l[j].key) := hc3 j hjt 0 _ rfl
        have y0 : W.cell? ⟨g4, o4 + j * 3, none⟩ = some (vs l[j].key) := hc4 j hjt 0 _ rfl
        have x1 : W.cell? ⟨g3, o3 + j * 3 + 1, none⟩ = some (vs l[j].num) := hc3 j hjt 1 _ rfl
        have y1 : W.cell? ⟨g4, o4 + j * 3 + 1, none⟩ = some (vs l[j].num) := hc4 j hjt 1 _ rfl
        have x2 : W.cell? ⟨g3, o3 + j * 3 + 2, none⟩ = some (.int .i64 l[j].page) := hc3 j hjt 2 _ rfl
        have y2 : W.cell? ⟨g4, o4 + j * 3 + 2, none⟩ = some (.int .i64 l[j].page) := hc4 j hjt 2 _ rfl
        clear hc3 hc4
        generalize l[j] = p at *
        have m4 : (j : Int) < (l.length : Int) := by omega
        have m6 : (0 : Int) ≤ (j : Int) := by omega
        have heq := eqAtLb p p
        rw [lb_all, show decide (p = p) = true by simp] at heq
        go_wp2_with fail
        go_quiet (fail)
        go_wp2_with fail
        go_roundw
        case rel => exact ⟨j + 1, _, by omega, by go_num, by first | rfl | exact World.drewN_drewN _ _ _⟩
        case measure => simp [intOf]; omega
      · obtain rfl : j = l.length := by omega
        have hjb : ¬ (l.length : Int) < (l.length : Int) := by omega
        go_wp2_with fail
        go_meet
        exact ⟨_, rfl⟩
  case rest =>
    obtain ⟨n, rfl⟩ := hcut
    go_upto_block 2 with fail
    go_cut [6] (fun _i wx => ∃ n, wx = W.drewN n)
    case first =>
      go_wp2_with fail
      go_loopw [6] (fun i wr => ∃ j n : Nat, j ≤ h.length ∧ i = .int .i64 j ∧ wr = W.drewN n) (fun i _ => h.length - (intOf i).toNat)
      case atStart => exact ⟨0, n, Nat.zero_le _, rfl, rfl⟩
      case round =>
        obtain ⟨j, n2, hj, rfl, rfl⟩ := hrel
        by_cases hjt : j < h.length
        · obtain ⟨g3, o3, rfl, hg3, hc3⟩ := Y1.out (by intro e; rw [e] at hjt; simp at hjt)
          obtain ⟨g4, o4, rfl, hg4, hc4⟩ := Y2.out (by intro e; rw [e] at hjt; simp at hjt)
          have x0 : W.cell? ⟨g3, o3 + j * 4, none⟩ = some (.int .i64 h[j].level) := hc3 j hjt 0 _ rfl
          have y0 : W.cell? ⟨g4, o4 + j * 4, none⟩ = some (.int .i64 h[j].level) := hc4 j hjt 0 _ rfl
          have x1 : W.cell? ⟨g3, o3 + j * 4 + 1, none⟩ = some (vs h[j].num) := hc3 j hjt 1 _ rfl
          have y1 : W.cell? ⟨g4, o4 + j * 4 + 1, none⟩ = some (vs h[j].num) := hc4 j hjt 1 _ rfl
          have x2 : W.cell? ⟨g3, o3 + j * 4 + 2, none⟩ = some (vs h[j].title) := hc3 j hjt 2 _ rfl
          have y2 : W.cell? ⟨g4, o4 + j * 4 + 2, none⟩ = some (vs h[j].title) := hc4 j hjt 2 _ rfl
          have x3 : W.cell? ⟨g3, o3 + j * 4 + 3, none⟩ = some (.int .i64 h[j].page) := hc3 j hjt 3 _ rfl
          have y3 : W.cell? ⟨g4, o4 + j * 4 + 3, none⟩ = some (.int .i64 h[j].page) := hc4 j hjt 3 _ rfl
          clear hc3 hc4
          generalize h[j] = p at *
          have m4 : (j : Int) < (h.length : Int) := by omega
          have m6 : (0 : Int) ≤ (j : Int) := by omega
          have heq := eqAtHd p p
          rw [hd_all, show decide (p = p) = true by simp] at heq
          go_wp2_with fail
          go_quiet (fail)
          go_wp2_with fail
          go_roundw
          case rel => exact ⟨j + 1, _, by omega, by go_num, by first | rfl | exact World.drewN_drewN _ _ _⟩
          case measure => simp [intOf]; omega
        · obtain rfl : j = h.length := by omega
          have hjb : ¬ (h.length : Int) < (h.length : Int) := by omega
          go_wp2_with fail
          go_meet
          exact ⟨_, rfl⟩
    case rest =>
      obtain ⟨n2, rfl⟩ := hcut
      clear hl2 hh2
      go_wp2_with fail
      refine (HW1.out n2).mono ?_
      rintro e w1 ⟨rfl, k1, rfl⟩
      rw [World.drewN_drewN]
      go_wp2_with fail
      refine (HW2.out (n2 + k1)).mono ?_
      rintro e w2 ⟨rfl, k2, rfl⟩
      go_wp2_with fail
      go_ret
      exact ⟨rfl, HBW.out.trans (below_of_drewN (n2 + k1 + k2))⟩
end Go.Proofs.YtjmmfihmamcopaaDoor
