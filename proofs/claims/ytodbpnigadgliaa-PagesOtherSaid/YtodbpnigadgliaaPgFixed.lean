/- The walk of stetlaw13.fixed: it answers true. -/
import Derived.Test.YtodbpnigadgliaaRows
import Derived.Test.YtodbpnigadgliaaPgPl
import Derived.Test.YtodbpnigadgliaaKit
import Derived.Test.YtodbpnigadgliaaPgPages
import Derived.Test.YtodbpnigadgliaaPgIn
namespace Go.Proofs.Ytodbpnigadgliaa
open Go.RowKit

theorem rInts_yes (ps : List Int) (v1 v2 : Value) (B1 B2 : Nat) (w : World) (h1 : Ints w B1 v1 ps) (h2 : Ints w B2 v2 ps) :
    Calls Try.prog 10 #[v1, v2] w fun e w' => e = .returned (.bool true) ∧ ∃ n, w' = w.drewN n :=
  (rInts_any ps ps v1 v2 B1 B2 w h1 h2).mono fun _ _ ⟨h3, h4⟩ => ⟨by simpa using h3, h4⟩
theorem of_eq (ps : List Int) (i r : Int) (v : Value) (B : Nat) (w : World) (hr : ofF ps (max i 0) 0 (max 1 ps.length) = r) (h : Ints w B v ps) (hp : ∀ x ∈ ps, 0 ≤ x) (hi : i ≤ 9223372036854775807) (hps : ps.length ≤ 1000000) :
    Calls Try.prog 11 #[v, .int .i64 i] w fun e w' => e = .returned (.int .i64 r) ∧ w = w' :=
  hr ▸ of_any ps i v B w h hp hi hps

theorem rInts_below (ps : List Int) (v1 v2 : Value) (B1 B2 : Nat) (w : World) (h1 : Ints w B1 v1 ps) (h2 : Ints w B2 v2 ps) :
    Calls Try.prog 10 #[v1, v2] w fun e w' => e = .returned (.bool true) ∧ Below w.heap.size w w' :=
  (rInts_yes ps v1 v2 B1 B2 w h1 h2).mono fun _ _ ⟨h3, n, h4⟩ => ⟨h3, h4 ▸ below_of_drewN n⟩
theorem of_below (ps : List Int) (i r : Int) (v : Value) (B : Nat) (w : World) (hr : ofF ps (max i 0) 0 (max 1 ps.length) = r) (h : Ints w B v ps) (hp : ∀ x ∈ ps, 0 ≤ x) (hi : i ≤ 9223372036854775807) (hps : ps.length ≤ 1000000) :
    Calls Try.prog 11 #[v, .int .i64 i] w fun e w' => e = .returned (.int .i64 r) ∧ Below w.heap.size w w' :=
  (of_eq ps i r v B w hr h hp hi hps).mono fun _ _ ⟨h3, h4⟩ => ⟨h3, h4 ▸ Below.refl _ _⟩

set_option maxHeartbeats 4000000 in
theorem fixed_any (w : World) : Calls Try.prog 13 #[] w fun e w' => e = .returned (.bool true) ∧ Below w.heap.size w w' := by
  go_enter Try.func13, Try.ntmps13
  go_wp2_with fail
  refine (pages_ints [0, 1, 0] 2 _ _ _ [1, 2] (by decide) (row_lit _ _ _ _ (by decide)) (by simp) (by decide)).mono ?_
  rintro e w1 ⟨r1, rfl, h1, b1⟩
  have c1 := below_lit (Below.refl _ _) (Nat.le_refl _) _ b1 (by simp; try omega)
  have s1 := c1.size
  clear b1
  go_wp2_with fail
  refine (pages_ints [1, 0] 1 _ _ _ [1, 1] (by decide) (row_lit _ _ _ _ (by decide)) (by simp) (by decide)).mono ?_
  rintro e w2 ⟨r2, rfl, h2, b2⟩
  have c2 := below_lit (c1) (s1) _ b2 (by simp; try omega)
  replace h1 := h1.step_lit b2
  have s2 := c2.size
  clear b2
  clear c1 s1
  go_wp2_with fail
  refine (pages_ints [0, 2, 0] 9 _ _ _ [2, 1] (by decide) (row_lit _ _ _ _ (by decide)) (by simp) (by decide)).mono ?_
  rintro e w3 ⟨r3, rfl, h3, b3⟩
  have c3 := below_lit (c2) (s2) _ b3 (by simp; try omega)
  replace h1 := h1.step_lit b3
  replace h2 := h2.step_lit b3
  have s3 := c3.size
  clear b3
  clear c2 s2
  go_wp2_with fail
  refine (pages_ints [2, 2, 0, 1, 1, 2, 0] 3 _ _ _ [6, 1] (by decide) (row_lit _ _ _ _ (by decide)) (by simp) (by decide)).mono ?_
  rintro e w4 ⟨r4, rfl, h4, b4⟩
  have c4 := below_lit (c3) (s3) _ b4 (by simp; try omega)
  replace h1 := h1.step_lit b4
  replace h2 := h2.step_lit b4
  replace h3 := h3.step_lit b4
  have s4 := c4.size
  clear b4
  clear c3 s3
  go_wp2_with fail
  refine (pages_ints [0, 0, 0, 2] 3 _ _ _ [4] (by decide) (row_lit _ _ _ _ (by decide)) (by simp) (by decide)).mono ?_
  rintro e w5 ⟨r5, rfl, h5, b5⟩
  have c5 := below_lit (c4) (s4) _ b5 (by simp; try omega)
  replace h1 := h1.step_lit b5
  replace h2 := h2.step_lit b5
  replace h3 := h3.step_lit b5
  replace h4 := h4.step_lit b5
  have s5 := c5.size
  clear b5
  clear c4 s4
  go_wp2_with fail
  refine (rInts_below [1, 2] _ _ _ _ _ (h1.alloc (Nat.le_refl _) _) (row_lit _ _ _ _ (by decide))).mono ?_
  rintro e w6 ⟨rfl, b6⟩
  have c6 := below_lit (c5) (s5) _ b6 (by simp; try omega)
  replace h1 := h1.step_lit b6
  replace h2 := h2.step_lit b6
  replace h3 := h3.step_lit b6
  replace h4 := h4.step_lit b6
  replace h5 := h5.step_lit b6
  have s6 := c6.size
  clear b6
  clear c5 s5
  go_wp2_with fail
  refine (rInts_below [1, 1] _ _ _ _ _ (h2.alloc (Nat.le_refl _) _) (row_lit _ _ _ _ (by decide))).mono ?_
  rintro e w7 ⟨rfl, b7⟩
  have c7 := below_lit (c6) (s6) _ b7 (by simp; try omega)
  replace h1 := h1.step_lit b7
  replace h2 := h2.step_lit b7
  replace h3 := h3.step_lit b7
  replace h4 := h4.step_lit b7
  replace h5 := h5.step_lit b7
  have s7 := c7.size
  clear b7
  clear c6 s6
  go_wp2_with fail
  refine (rInts_below [2, 1] _ _ _ _ _ (h3.alloc (Nat.le_refl _) _) (row_lit _ _ _ _ (by decide))).mono ?_
  rintro e w8 ⟨rfl, b8⟩
  have c8 := below_lit (c7) (s7) _ b8 (by simp; try omega)
  replace h1 := h1.step_lit b8
  replace h2 := h2.step_lit b8
  replace h3 := h3.step_lit b8
  replace h4 := h4.step_lit b8
  replace h5 := h5.step_lit b8
  have s8 := c8.size
  clear b8
  clear c7 s7
  go_wp2_with fail
  refine (rInts_below [6, 1] _ _ _ _ _ (h4.alloc (Nat.le_refl _) _) (row_lit _ _ _ _ (by decide))).mono ?_
  rintro e w9 ⟨rfl, b9⟩
  have c9 := below_lit (c8) (s8) _ b9 (by simp; try omega)
  replace h1 := h1.step_lit b9
  replace h2 := h2.step_lit b9
  replace h3 := h3.step_lit b9
  replace h4 := h4.step_lit b9
  replace h5 := h5.step_lit b9
  have s9 := c9.size
  clear b9
  clear c8 s8
  go_wp2_with fail
  refine (rInts_below [4] _ _ _ _ _ (h5.alloc (Nat.le_refl _) _) (row_lit _ _ _ _ (by decide))).mono ?_
  rintro e w10 ⟨rfl, b10⟩
  have c10 := below_lit (c9) (s9) _ b10 (by simp; try omega)
  replace h1 := h1.step_lit b10
  replace h2 := h2.step_lit b10
  replace h3 := h3.step_lit b10
  replace h4 := h4.step_lit b10
  replace h5 := h5.step_lit b10
  have s10 := c10.size
  clear b10
  clear c9 s9
  go_wp2_with fail
  refine (pages_ints [] 5 _ _ _ [] (by decide) (Row.nil _ _ 0 _ _ (by decide)) (Nat.zero_le _) (by decide)).mono ?_
  rintro e w11 ⟨r6, rfl, h6, b11⟩
  have c11 := (c10).trans (b11.mono (s10))
  replace h1 := h1.step b11
  have s11 := c11.size
  clear b11
  clear c10 s10
  obtain ⟨A6, k6, rfl, _, _, _⟩ := h6.shape
  clear h6
  go_wp2_with fail
  refine (of_below [1, 2] 0 1 _ _ _ (by decide) h1 (by decide) (by decide) (by decide)).mono ?_
  rintro e w12 ⟨rfl, b12⟩
  have c12 := (c11).trans (b12.mono (s11))
  replace h1 := h1.step b12
  have s12 := c12.size
  clear b12
  clear c11 s11
  go_wp2_with fail
  refine (of_below [1, 2] 1 2 _ _ _ (by decide) h1 (by decide) (by decide) (by decide)).mono ?_
  rintro e w13 ⟨rfl, b13⟩
  have c13 := (c12).trans (b13.mono (s12))
  replace h1 := h1.step b13
  have s13 := c13.size
  clear b13
  clear c12 s12
  go_wp2_with fail
  refine (of_below [1, 2] 9 2 _ _ _ (by decide) h1 (by decide) (by decide) (by decide)).mono ?_
  rintro e w14 ⟨rfl, b14⟩
  have c14 := (c13).trans (b14.mono (s13))
  replace h1 := h1.step b14
  have s14 := c14.size
  clear b14
  clear c13 s13
  go_wp2_with fail
  refine (of_below [] 0 1 _ 0 _ (by decide) (Row.nil _ _ _ _ _ (by decide)) (by decide) (by decide) (by decide)).mono ?_
  rintro e w15 ⟨rfl, b15⟩
  have c15 := (c14).trans (b15.mono (s14))
  have s15 := c15.size
  clear b15
  clear c14 s14
  go_wp2_with fail
  refine (of_below [0, 1] (-1) 2 _ _ _ (by decide) (row_lit _ _ _ _ (by decide)) (by decide) (by decide) (by decide)).mono ?_
  rintro e w16 ⟨rfl, b16⟩
  have c16 := below_lit (c15) (s15) _ b16 (by simp; try omega)
  have s16 := c16.size
  clear b16
  clear c15 s15
  go_wp2_with fail
  go_ret
  exact ⟨rfl, c16⟩
end Go.Proofs.Ytodbpnigadgliaa
