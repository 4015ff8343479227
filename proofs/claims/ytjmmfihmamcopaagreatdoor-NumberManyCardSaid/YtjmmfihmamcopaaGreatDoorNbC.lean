/- count.Cut, Add, Text; a counter's text; side.Find; slices.Contains over texts. -/
import Derived.Test.YtjmmfihmamcopaaGreatDoorNbW
import Derived.Lib.AppendIntMem
namespace Go.Proofs.YtjmmfihmamcopaaGreatDoor
open Go.RowKit Go.Lib Go.Sort Tx Nb

/-- What the listed variables hold, so far as it is read. -/
structure Gl (w : World) : Prop where
  tab : Lib.TabIs Tryz.prog w "internal/strconv.uint64pow10" .u64 Lib.pow10Tab
  ml : ∃ m, w.cell? ⟨1, 0, none⟩ = some (.int .i64 m)
theorem Gl.below {w w' : World} (h : Gl w) (hb : Below w.heap.size w w') : Gl w' := by
  obtain ⟨m, hm⟩ := h.ml
  exact ⟨Lib.tabBelow_of_tabIs h.tab w' hb, m, (hb.cell (p := ⟨1, 0, none⟩) (World.block_lt_of_cell? w _ hm)).trans hm⟩
theorem below_via {w w1 w2 : World} (h : Below w.heap.size w w1) (h2 : Below w1.heap.size w1 w2) : Below w.heap.size w w2 := h.trans (h2.mono h.size)
theorem itoa_any (n : Nat) (hn : n ≤ 1000000000) (w : World) (hg : Gl w) :
    Calls Tryz.prog 71 #[.int .i64 n] w fun e w' => e = .returned (vs (Lib.decDigits n)) ∧ Below w.heap.size w w' := by
  refine (Tryz.strconv_Itoa (n : Int) (by omega) (by omega) w hg.tab).mono ?_
  rintro e w' ⟨rfl, k, os, rfl⟩
  refine ⟨?_, below_grow _ w (Nat.le_refl _) k os⟩
  have : Lib.itoa (n : Int) = Lib.decDigits n := by unfold Lib.itoa; rw [if_neg (by omega)]; simp
  rw [this]
  rfl
theorem cCut_any (n : Int) (w : World) : Calls Tryz.prog 67 #[.int .i64 n] w fun e w' => e = .returned (.int .i64 (min (max n 0) 999999)) ∧ w' = w := by
  go_enter Tryz.func67, Tryz.ntmps67
  go_wp2_with fail
  go_ret
  exact ⟨rfl, rfl⟩
set_option maxRecDepth 100000 in
theorem cText_any (n : Int) (w : World) (hg : Gl w) : Calls Tryz.prog 58 #[.int .i64 n, .int .i64 0] w fun e w' => e = .returned (vs (dig n)) ∧ Below w.heap.size w w' := by
  obtain ⟨m, hm⟩ : ∃ m : Nat, min (max n 0) 999999 = (m : Int) := ⟨(min (max n 0) 999999).toNat, by omega⟩
  have hml : m ≤ 999999 := by omega
  have HC := Lib.hid (cCut_any n w)
  rw [hm] at HC
  have HI := Lib.hid (itoa_any m (by omega) w hg)
  have HD : Hid (Lib.decDigits m = dig n) := Lib.hid (by unfold dig; rw [hm]; simp)
  clear hm hg
  go_enter Tryz.func58, Tryz.ntmps58
  go_wp2_with fail
  refine HC.out.mono ?_
  rintro e w1 ⟨rfl, rfl⟩
  go_wp2_with fail
  refine HI.out.mono ?_
  rintro e w2 ⟨rfl, b⟩
  go_wp2_with fail
  go_ret
  exact ⟨by rw [HD.out]; rfl, b⟩
set_option maxRecDepth 100000 in
theorem cnText_any (n : Int) (w : World) (hg : Gl w) : Calls Tryz.prog 31 #[.agg #[.int .i64 n]] w fun e w' => e = .returned (vs (dig n)) ∧ Below w.heap.size w w' := by
  have hb := (Below.refl w.heap.size w).alloc (Nat.le_refl _) (.cells #[.int .i64 n] 76)
  have HC := Lib.hid (cText_any n _ (hg.below hb))
  have HB := Lib.hid hb
  clear hg hb
  go_enter Tryz.func31, Tryz.ntmps31
  go_wp2_with fail
  refine HC.out.mono ?_
  rintro e w1 ⟨rfl, b⟩
  go_wp2_with fail
  go_ret
  exact ⟨rfl, below_via HB.out b⟩
theorem cAdd_any (n : Nat) (hn : n ≤ 999998) (w : World) : Calls Tryz.prog 64 #[.int .i64 n, .int .i64 1] w fun e w' => e = .returned (.tuple #[.int .i64 ((n + 1 : Nat) : Int), .bool false]) ∧ w' = w := by
  have h1 : min (max (n : Int) 0) 999999 = n := by omega
  have h2 : min (max ((n + 1 : Nat) : Int) 0) 999999 = ((n + 1 : Nat) : Int) := by omega
  have h3 : min (max (1 : Int) 0) 999999 = 1 := by omega
  have HC := Lib.hid (cCut_any (n : Int) w)
  have HD := Lib.hid (cCut_any 1 w)
  have HE := Lib.hid (cCut_any ((n + 1 : Nat) : Int) w)
  rw [h1] at HC
  rw [h3] at HD
  rw [h2] at HE
  have x1 : IntKind.i64.wrap ((n : Int) + 1) = ((n + 1 : Nat) : Int) := by rw [IntWalk.i64_in _ (by omega)]; omega
  obtain ⟨m, hm⟩ : ∃ m, m = n + 1 := ⟨_, rfl⟩
  rw [← hm] at x1 HE ⊢
  have hm2 : m ≤ 999999 := by omega
  have hm3 : ¬ (999999 < (m : Int)) := by omega
  clear h1 h2 h3 hm
  go_enter Tryz.func64, Tryz.ntmps64
  go_wp2_with fail
  refine HC.out.mono ?_
  rintro e w1 ⟨rfl, rfl⟩
  go_wp2_with fail
  refine HD.out.mono ?_
  rintro e w1 ⟨rfl, rfl⟩
  go_wp2_with fail
  refine HE.out.mono ?_
  rintro e w1 ⟨rfl, rfl⟩
  go_wp2_with fail
  go_ret2
  refine ⟨?_, rfl⟩
  show Ending.returned (.tuple #[.int .i64 m, .bool (decide (999999 < (m : Int)))]) = _
  rw [show decide (999999 < (m : Int)) = false by simp; omega]
end Go.Proofs.YtjmmfihmamcopaaGreatDoor
