/- The walk of stetlaw12.fixed: it answers true. Printed by genlnfixed.py. -/
import Derived.Test.YtjebndjmckefbaaRows
import Derived.Test.YtjebndjmckefbaaKit
import Derived.Test.YtjebndjmckefbaaLnW2
import Derived.Test.YtjebndjmckefbaaIn
namespace Go.Proofs.Ytjebndjmckefbaa
open Go.RowKit

theorem Break_ints (ws : List Int) (width : Int) (v : Value) (B : Nat) (w : World) (ys : List Int) (he : Ln.linesF (min (max width 1) 1000).toNat (ws.map Ln.clip) = ys) (hr : Ints w B v ws) (hB : B ≤ w.heap.size) (hl : ws.length ≤ 1000) :
    Calls Try.prog 10 #[v, .int .i64 width] w fun e w' => ∃ r, e = .returned (.tuple #[r, .int .i64 0]) ∧ Ints w' w'.heap.size r ys ∧ Below w.heap.size w w' :=
  (Break_any ws width v w (hr.more hB) hl).mono fun _ _ ⟨r, h1, h2, h3⟩ => ⟨r, h1, he ▸ Row.own h2, h3⟩
theorem Cost_below (ws ls : List Int) (width : Int) (v1 v2 : Value) (B1 B2 : Nat) (w : World) (r : Option Nat) (he : Ln.costF (min (max width 1) 1000).toNat (ws.map Ln.clip) ls = r) (h1 : Ints w B1 v1 ws) (h2 : Ints w B2 v2 ls) (hl : ws.length ≤ 1000) (hl2 : ls.length ≤ 100000) :
    Calls Try.prog 8 #[v1, v2, .int .i64 width] w fun e w' => e = .returned (costV r) ∧ Below w.heap.size w w' :=
  (Cost_any ws ls width v1 v2 B1 B2 w h1 h2 hl hl2).mono fun _ _ ⟨h3, h4⟩ => ⟨he ▸ h3, h4 ▸ Below.refl _ _⟩
/-- .. with its answer written out -/
theorem Cost_ok (ws ls : List Int) (width : Int) (v1 v2 : Value) (B1 B2 : Nat) (w : World) (c : Nat) (he : Ln.costF (min (max width 1) 1000).toNat (ws.map Ln.clip) ls = some c) (h1 : Ints w B1 v1 ws) (h2 : Ints w B2 v2 ls) (hl : ws.length ≤ 1000) (hl2 : ls.length ≤ 100000) :
    Calls Try.prog 8 #[v1, v2, .int .i64 width] w fun e w' => e = .returned (.tuple #[.int .i64 c, .int .i64 0]) ∧ Below w.heap.size w w' :=
  Cost_below ws ls width v1 v2 B1 B2 w (some c) he h1 h2 hl hl2
theorem Cost_no (ws ls : List Int) (width : Int) (v1 v2 : Value) (B1 B2 : Nat) (w : World) (he : Ln.costF (min (max width 1) 1000).toNat (ws.map Ln.clip) ls = none) (h1 : Ints w B1 v1 ws) (h2 : Ints w B2 v2 ls) (hl : ws.length ≤ 1000) (hl2 : ls.length ≤ 100000) :
    Calls Try.prog 8 #[v1, v2, .int .i64 width] w fun e w' => e = .returned (.tuple #[.int .i64 0, .int .i64 5]) ∧ Below w.heap.size w w' :=
  Cost_below ws ls width v1 v2 B1 B2 w none he h1 h2 hl hl2

set_option maxRecDepth 100000 in
set_option maxHeartbeats 4000000 in
theorem fixed_any (w : World) : Calls Try.prog 13 #[] w fun e w' => e = .returned (.bool true) ∧ Below w.heap.size w w' := by
  go_enter Try.func13, Try.ntmps13
  go_wp2_with fail
  refine (Break_ints [3, 2, 2, 5] 6 _ _ _ [1, 2, 1] (by decide) (row_lit _ _ _ _ (by decide)) (by simp) (by decide)).mono ?_
  rintro e w1 ⟨r1, rfl, h1, b1⟩
  have c1 := below_lit (Below.refl _ _) (Nat.le_refl _) _ b1 (by simp; try omega)
  have s1 := c1.size
  clear b1
  go_wp2_with fail
  refine (Cost_ok [3, 2, 2, 5] [2, 1, 1] 6 _ _ _ _ _ 16 (by decide) (row_lit2a _ _ _ _ _ (by decide)) (row_lit2b _ _ _ _ _ (by decide)) (by decide) (by decide)).mono ?_
  rintro e w2 ⟨rfl, b2⟩
  have c2 := below_lit2 (c1) (s1) _ _ b2 (by simp; try omega)
  replace h1 := h1.step_lit2 b2
  have s2 := c2.size
  clear b2
  clear c1 s1
  go_wp2_with fail
  refine (Cost_no [3, 2, 2, 5] [2, 2] 6 _ _ _ _ _ (by decide) (row_lit2a _ _ _ _ _ (by decide)) (row_lit2b _ _ _ _ _ (by decide)) (by decide) (by decide)).mono ?_
  rintro e w3 ⟨rfl, b3⟩
  have c3 := below_lit2 (c2) (s2) _ _ b3 (by simp; try omega)
  replace h1 := h1.step_lit2 b3
  have s3 := c3.size
  clear b3
  clear c2 s2
  go_wp2_with fail
  refine (Cost_no [3, 2] [1] 6 _ _ _ _ _ (by decide) (row_lit2a _ _ _ _ _ (by decide)) (row_lit2b _ _ _ _ _ (by decide)) (by decide) (by decide)).mono ?_
  rintro e w4 ⟨rfl, b4⟩
  have c4 := below_lit2 (c3) (s3) _ _ b4 (by simp; try omega)
  replace h1 := h1.step_lit2 b4
  have s4 := c4.size
  clear b4
  clear c3 s3
  go_wp2_with fail
  refine (Cost_no [3, 2] [0, 2] 6 _ _ _ _ _ (by decide) (row_lit2a _ _ _ _ _ (by decide)) (row_lit2b _ _ _ _ _ (by decide)) (by decide) (by decide)).mono ?_
  rintro e w5 ⟨rfl, b5⟩
  have c5 := below_lit2 (c4) (s4) _ _ b5 (by simp; try omega)
  replace h1 := h1.step_lit2 b5
  have s5 := c5.size
  clear b5
  clear c4 s4
  go_wp2_with fail
  refine (Cost_ok [3, 2, 2, 5] [1, 2, 1] 6 _ _ _ _ _ 10 (by decide) (row_lit _ _ _ _ (by decide)) (h1.alloc (Nat.le_refl _) _) (by decide) (by decide)).mono ?_
  rintro e w6 ⟨rfl, b6⟩
  have c6 := below_lit (c5) (s5) _ b6 (by simp; try omega)
  replace h1 := h1.step_lit b6
  have s6 := c6.size
  clear b6
  clear c5 s5
  go_wp2_with fail
  refine (Break_ints [9, 1, 9] 3 _ _ _ [1, 1, 1] (by decide) (row_lit _ _ _ _ (by decide)) (by simp) (by decide)).mono ?_
  rintro e w7 ⟨r2, rfl, h2, b7⟩
  have c7 := below_lit (c6) (s6) _ b7 (by simp; try omega)
  replace h1 := h1.step_lit b7
  have s7 := c7.size
  clear b7
  clear c6 s6
  go_wp2_with fail
  refine (Break_ints [] 0 _ _ _ [] (by decide) (Row.nil _ _ 0 _ _ (by decide)) (Nat.zero_le _) (by decide)).mono ?_
  rintro e w8 ⟨r3, rfl, h3, b8⟩
  have c8 := (c7).trans (b8.mono (s7))
  replace h1 := h1.step b8
  replace h2 := h2.step b8
  have s8 := c8.size
  clear b8
  clear c7 s7
  obtain ⟨A3, k3, rfl, _, _, _⟩ := h3.shape
  clear h3
  go_wp2_with fail
  refine (rInts_below [1, 2, 1] _ _ _ _ _ (h1.alloc (Nat.le_refl _) _) (row_lit _ _ _ _ (by decide))).mono ?_
  rintro e w9 ⟨rfl, b9⟩
  have c9 := below_lit (c8) (s8) _ b9 (by simp; try omega)
  replace h1 := h1.step_lit b9
  replace h2 := h2.step_lit b9
  have s9 := c9.size
  clear b9
  clear c8 s8
  go_wp2_with fail
  refine (rInts_below [1, 1, 1] _ _ _ _ _ (h2.alloc (Nat.le_refl _) _) (row_lit _ _ _ _ (by decide))).mono ?_
  rintro e w10 ⟨rfl, b10⟩
  have c10 := below_lit (c9) (s9) _ b10 (by simp; try omega)
  replace h1 := h1.step_lit b10
  replace h2 := h2.step_lit b10
  have s10 := c10.size
  clear b10
  clear c9 s9
  go_wp2_with fail
  go_ret
  exact ⟨rfl, c10⟩
end Go.Proofs.Ytjebndjmckefbaa
