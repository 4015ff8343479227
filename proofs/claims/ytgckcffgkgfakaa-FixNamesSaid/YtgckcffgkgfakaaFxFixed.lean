/- The walk of stetlaw23.fixed: it answers true. Printed by genfxfixed.py. -/
import Derived.Test.YtgckcffgkgfakaaRows
import Derived.Test.YtgckcffgkgfakaaKit
import Derived.Test.YtgckcffgkgfakaaIn
import Derived.Test.YtgckcffgkgfakaaFxOf
import Derived.Test.YtgckcffgkgfakaaFxWalk
import Derived.Test.YtgckcffgkgfakaaFxCyc
namespace Go.Proofs.Ytgckcffgkgfakaa
open Go.RowKit

theorem Fx.cyc_of {f : Nat → Nat} {s m r : Nat} (h1 : 1 ≤ r) (h2 : Fx.orb f s (m + r) = Fx.orb f s m) (h3 : ∀ j, j < m + r → ∀ i, i < j → Fx.orb f s i ≠ Fx.orb f s j) : Fx.Cyc f s m r := ⟨h1, h2, fun i j hij hj => h3 j hj i hij⟩
theorem walk_fx (next : List Int) (s : Int) (s0 m r : Nat) (b : Int) (x y z : Int) (ls : List Int) (v : Value) (w : World) (hs : s = s0) (ha : Fx.walkV m r b = (x, y, z)) (hls : Fx.ol (Fx.nx next) s0 (Fx.walkN m r b + 1) = ls) (hr : Ints w w.heap.size v next) (hl : next.length < 1000000) (hm : Fx.mayF next s = true) (hb1 : 1 ≤ b) (hb2 : b ≤ 1000) (hcy : Fx.Cyc (Fx.nx next) s0 m r) :
    Calls Try.prog 8 #[v, .int .i64 s, .int .i64 b] w fun e w' => ∃ rv, e = .returned (.tuple #[.agg #[.int .i64 x, .int .i64 y, .int .i64 z], rv, .int .i64 0]) ∧ Ints w' w'.heap.size rv ls ∧ Below w.heap.size w w' := by
  subst hs hls
  have := walk_any next s0 m r b v w hr hl hm hb1 hb2 hcy
  rwa [ha] at this
theorem walk_no (next : List Int) (s b : Int) (v : Value) (w : World) (hr : Ints w w.heap.size v next) (hbad : Fx.mayF next s = false ∨ b < 1 ∨ 1000 < b) :
    Calls Try.prog 8 #[v, .int .i64 s, .int .i64 b] w fun e w' => e = .returned (.tuple #[.agg #[.int .i64 0, .int .i64 0, .int .i64 0], .slice none 0 0, .int .i64 1]) ∧ Below w.heap.size w w' := walk_bad next s b v w hr hbad
theorem cycle_fx (next : List Int) (s : Int) (s0 m r : Nat) (v : Value) (w : World) (hs : s = s0) (hr : Ints w w.heap.size v next) (hl : next.length < 1000000) (hm : Fx.mayF next s = true) (hcy : Fx.Cyc (Fx.nx next) s0 m r) (hmr : m + r ≤ next.length) :
    Calls Try.prog 10 #[v, .int .i64 s] w fun e w' => e = .returned (.tuple #[.int .i64 (m : Int), .int .i64 (r : Int), .int .i64 0]) ∧ Below w.heap.size w w' := by
  subst hs
  exact cycle_any next s0 m r v w hr hl hm hcy hmr
theorem of_fx (l : List Int) (b : Int) (x y z : Int) (v : Value) (w : World) (ha : Fx.ofF l b = (x, y, z)) (hr : Ints w w.heap.size v l) (hl : l.length < 1000000) (hwf : ∀ x ∈ l, (Lit.int .i64 x).wf = true) :
    Calls Try.prog 13 #[v, .int .i64 b] w fun e w' => e = .returned (.agg #[.int .i64 x, .int .i64 y, .int .i64 z]) ∧ Below w.heap.size w w' := by
  have := fOf_any l b v w hr hl hwf
  rwa [ha] at this

set_option maxRecDepth 100000 in
set_option maxHeartbeats 4000000 in
theorem xfixed_any (w : World) : Calls Try.prog 16 #[] w fun e w' => e = .returned (.bool true) ∧ Below w.heap.size w w' := by
  go_enter Try.func16, Try.ntmps16
  go_wp2_with fail
  refine (walk_fx [1, 2, 1] 0 0 1 2 9 2 1 3 [0, 1, 2, 1] _ _ rfl (by decide) (by decide) ((row_lit _ _ _ _ (by decide)).more (by simp)) (by decide) (by decide) (by decide) (by decide) (Fx.cyc_of (by decide) (by decide) (by decide))).mono ?_
  rintro e w1 ⟨r1, rfl, h1, b1⟩
  have c1 := below_lit (Below.refl _ _) (Nat.le_refl _) _ b1 (by simp; try omega)
  have s1 := c1.size
  clear b1
  go_wp2_with fail
  refine (walk_no [1, 2] 0 9 _ _ ((row_lit2b _ _ _ _ _ (by decide)).more (by simp)) (.inl (by decide))).mono ?_
  rintro e w2 ⟨rfl, b2⟩
  have c2 := below_lit2 (c1) (s1) _ _ b2 (by simp; try omega)
  replace h1 := h1.step_lit2 b2
  have h2 := ((row_lit2a (Value.int .i64) [2, 1, 3] w1 25 (.cells #[.int .i64 1, .int .i64 2] 3) (by decide)).more (by simp)).step b2
  have s2 := c2.size
  clear b2
  clear c1 s1
  go_wp2_with fail
  refine (walk_no [0] 0 1001 _ _ ((row_lit2b _ _ _ _ _ (by decide)).more (by simp)) (.inr (.inr (by decide)))).mono ?_
  rintro e w3 ⟨rfl, b3⟩
  have c3 := below_lit2 (c2) (s2) _ _ b3 (by simp; try omega)
  replace h1 := h1.step_lit2 b3
  replace h2 := h2.step_lit2 b3
  have s3 := c3.size
  clear b3
  clear c2 s2
  go_wp2_with fail
  refine (cycle_fx [1, 2, 3, 2] 0 0 2 2 _ _ rfl ((row_lit2b _ _ _ _ _ (by decide)).more (by simp)) (by decide) (by decide) (Fx.cyc_of (by decide) (by decide) (by decide)) (by decide)).mono ?_
  rintro e w4 ⟨rfl, b4⟩
  have c4 := below_lit2 (c3) (s3) _ _ b4 (by simp; try omega)
  replace h1 := h1.step_lit2 b4
  replace h2 := h2.step_lit2 b4
  have s4 := c4.size
  clear b4
  clear c3 s3
  go_wp2_with fail
  refine (cycle_bad [] 0 _ _ (Row.nil _ _ _ _ _ (by decide)) (by decide)).mono ?_
  rintro e w5 ⟨rfl, b5⟩
  have c5 := (c4).trans (b5.mono (s4))
  replace h1 := h1.step b5
  replace h2 := h2.step b5
  have s5 := c5.size
  clear b5
  clear c4 s4
  go_wp2_with fail
  refine (of_fx [5, 6, 7, 7] (9) 1 2 0 _ _ (by decide) ((row_lit _ _ _ _ (by decide)).more (by simp)) (by decide) (by decide)).mono ?_
  rintro e w6 ⟨rfl, b6⟩
  have c6 := below_lit (c5) (s5) _ b6 (by simp; try omega)
  replace h1 := h1.step_lit b6
  replace h2 := h2.step_lit b6
  have s6 := c6.size
  clear b6
  clear c5 s5
  go_wp2_with fail
  refine (of_fx [5, 6, 7, 6] (9) 2 1 3 _ _ (by decide) ((row_lit _ _ _ _ (by decide)).more (by simp)) (by decide) (by decide)).mono ?_
  rintro e w7 ⟨rfl, b7⟩
  have c7 := below_lit (c6) (s6) _ b7 (by simp; try omega)
  replace h1 := h1.step_lit b7
  replace h2 := h2.step_lit b7
  have s7 := c7.size
  clear b7
  clear c6 s6
  go_wp2_with fail
  refine (of_fx [5, 6] (1) 3 0 0 _ _ (by decide) ((row_lit _ _ _ _ (by decide)).more (by simp)) (by decide) (by decide)).mono ?_
  rintro e w8 ⟨rfl, b8⟩
  have c8 := below_lit (c7) (s7) _ b8 (by simp; try omega)
  replace h1 := h1.step_lit b8
  replace h2 := h2.step_lit b8
  have s8 := c8.size
  clear b8
  clear c7 s7
  go_wp2_with fail
  refine (of_fx [5, 6] (2) 0 0 0 _ _ (by decide) ((row_lit _ _ _ _ (by decide)).more (by simp)) (by decide) (by decide)).mono ?_
  rintro e w9 ⟨rfl, b9⟩
  have c9 := below_lit (c8) (s8) _ b9 (by simp; try omega)
  replace h1 := h1.step_lit b9
  replace h2 := h2.step_lit b9
  have s9 := c9.size
  clear b9
  clear c8 s8
  go_wp2_with fail
  refine (of_fx [] (0) 0 0 0 _ _ (by decide) (Row.nil _ _ _ _ _ (by decide)) (by decide) (by decide)).mono ?_
  rintro e w10 ⟨rfl, b10⟩
  have c10 := (c9).trans (b10.mono (s9))
  replace h1 := h1.step b10
  replace h2 := h2.step b10
  have s10 := c10.size
  clear b10
  clear c9 s9
  go_wp2_with fail
  refine (of_fx [5, 5] (-1) 1 0 0 _ _ (by decide) ((row_lit _ _ _ _ (by decide)).more (by simp)) (by decide) (by decide)).mono ?_
  rintro e w11 ⟨rfl, b11⟩
  have c11 := below_lit (c10) (s10) _ b11 (by simp; try omega)
  replace h1 := h1.step_lit b11
  replace h2 := h2.step_lit b11
  have s11 := c11.size
  clear b11
  clear c10 s10
  obtain ⟨Ab, cb, eb, _, _, hbx⟩ := h2.shape
  cases eb
  obtain ⟨bq, oq, eq, _, hbc⟩ := hbx (by simp)
  cases eq
  have v0 := hbc 0 (by decide)
  have v1 := hbc 1 (by decide)
  have v2 := hbc 2 (by decide)
  simp only [List.getElem_cons_zero, List.getElem_cons_succ, Nat.zero_add] at v0 v1 v2
  clear hbc hbx
  go_wp2_with fail
  refine (rInts_below [0, 1, 2, 1] _ _ _ _ _ (h1.alloc (Nat.le_refl _) _) (row_lit _ _ _ _ (by decide))).mono ?_
  rintro e w12 ⟨rfl, b12⟩
  have c12 := below_lit (c11) (s11) _ b12 (by simp; try omega)
  replace h1 := h1.step_lit b12
  replace h2 := h2.step_lit b12
  have s12 := c12.size
  clear b12
  clear c11 s11
  go_wp2_with fail
  go_ret
  exact ⟨rfl, c12⟩
end Go.Proofs.Ytgckcffgkgfakaa
