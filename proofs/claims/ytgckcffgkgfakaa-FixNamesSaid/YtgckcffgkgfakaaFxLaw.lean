/- fix and stetref23, function by function: they answer alike. The walk of stetlaw23.Ref. -/
import Derived.Test.YtgckcffgkgfakaaRows
import Derived.Test.YtgckcffgkgfakaaKit
import Derived.Test.YtgckcffgkgfakaaFxPl
import Derived.Test.YtgckcffgkgfakaaFxW1
import Derived.Test.YtgckcffgkgfakaaFxOf
import Derived.Test.YtgckcffgkgfakaaFxMay
import Derived.Test.YtgckcffgkgfakaaFxWalk
import Derived.Test.YtgckcffgkgfakaaFxCyc
import Derived.Test.YtgckcffgkgfakaaFxRof
import Derived.Test.YtgckcffgkgfakaaFxRw
import Derived.Test.YtgckcffgkgfakaaFxRc
namespace Go.Proofs.Ytgckcffgkgfakaa
open Go.RowKit

theorem ofs_same (l : List Int) (b : Int) (hl : l.length < 1000000) (hwf : ∀ x ∈ l, (Lit.int .i64 x).wf = true) (hb : (Lit.int .i64 b).wf = true) :
    ∃ x y z : Int, (∀ v w, Ints w w.heap.size v l → Calls Try.prog 13 #[v, .int .i64 b] w fun e w' => e = .returned (.agg #[.int .i64 x, .int .i64 y, .int .i64 z]) ∧ Below w.heap.size w w') ∧
      (∀ v w, Ints w w.heap.size v l → Calls Try.prog 14 #[v, .int .i64 b] w fun e w' => e = .returned (.agg #[.int .i64 x, .int .i64 y, .int .i64 z]) ∧ Below w.heap.size w w') :=
  ⟨(Fx.ofF l b).1, (Fx.ofF l b).2.1, (Fx.ofF l b).2.2, fun v w hr => fOf_any l b v w hr hl hwf, fun v w hr => rOf_any l b v w hr hl hb⟩

theorem Fx.mayF_cyc {next : List Int} {s : Int} (h : Fx.mayF next s = true) : ∃ s0 m r : Nat, s = s0 ∧ Fx.Cyc (Fx.nx next) s0 m r ∧ m + r ≤ next.length := by
  obtain ⟨hin, h0, h1⟩ := Fx.mayF_inv h
  obtain ⟨s0, rfl⟩ : ∃ s0 : Nat, s = s0 := ⟨s.toNat, by omega⟩
  obtain ⟨m, r, h2, h3⟩ := Fx.cyc_ex (Fx.nx next) s0 next.length (Fx.orb_lt hin (by omega))
  exact ⟨s0, m, r, rfl, h2, h3⟩

theorem walks_same (next : List Int) (s b : Int) (hl : next.length < 1000000) :
    ∃ (x y z e : Int) (ls : List Int), (∀ v w, Ints w w.heap.size v next → Calls Try.prog 8 #[v, .int .i64 s, .int .i64 b] w fun q w' => ∃ rv, q = .returned (.tuple #[.agg #[.int .i64 x, .int .i64 y, .int .i64 z], rv, .int .i64 e]) ∧ Ints w' w'.heap.size rv ls ∧ Below w.heap.size w w') ∧
      (∀ v w, Ints w w.heap.size v next → Calls Try.prog 9 #[v, .int .i64 s, .int .i64 b] w fun q w' => ∃ rv, q = .returned (.tuple #[.agg #[.int .i64 x, .int .i64 y, .int .i64 z], rv, .int .i64 e]) ∧ Ints w' w'.heap.size rv ls ∧ Below w.heap.size w w') := by
  by_cases hg : Fx.mayF next s = true ∧ 1 ≤ b ∧ b ≤ 1000
  · obtain ⟨hm, hb1, hb2⟩ := hg
    obtain ⟨s0, m, r, rfl, hcy, _⟩ := Fx.mayF_cyc hm
    exact ⟨_, _, _, 0, _, fun v w hr => walk_any next s0 m r b v w hr hl hm hb1 hb2 hcy, fun v w hr => rWalk_any next s0 m r b v w hr hl hm hb1 hb2 hcy⟩
  · have hbad : Fx.mayF next s = false ∨ b < 1 ∨ 1000 < b := by
      by_cases hm : Fx.mayF next s = true
      · refine .inr ?_
        by_cases hb : b < 1
        · exact .inl hb
        · exact .inr (Int.not_le.1 (fun h => hg ⟨hm, by omega, h⟩))
      · exact .inl (by simpa using hm)
    refine ⟨0, 0, 0, 1, [], fun v w hr => (walk_bad next s b v w hr hbad).mono fun q w' ⟨h1, h2⟩ => ⟨_, h1, Row.nil _ _ _ _ _ (by decide), h2⟩, fun v w hr => (rWalk_bad next s b v w hr hbad).mono fun q w' ⟨h1, h2⟩ => ⟨_, h1, Row.nil _ _ _ _ _ (by decide), h2⟩⟩

theorem cycles_same (next : List Int) (s : Int) (hl : next.length < 1000000) :
    ∃ (p q e : Int), (∀ v w, Ints w w.heap.size v next → Calls Try.prog 10 #[v, .int .i64 s] w fun k w' => k = .returned (.tuple #[.int .i64 p, .int .i64 q, .int .i64 e]) ∧ Below w.heap.size w w') ∧
      (∀ v w, Ints w w.heap.size v next → Calls Try.prog 11 #[v, .int .i64 s] w fun k w' => k = .returned (.tuple #[.int .i64 p, .int .i64 q, .int .i64 e]) ∧ Below w.heap.size w w') := by
  by_cases hm : Fx.mayF next s = true
  · obtain ⟨s0, m, r, rfl, hcy, hmr⟩ := Fx.mayF_cyc hm
    exact ⟨m, r, 0, fun v w hr => cycle_any next s0 m r v w hr hl hm hcy hmr, fun v w hr => rCycle_any next s0 m r v w hr hl hm hcy hmr⟩
  · have hm : Fx.mayF next s = false := by simpa using hm
    exact ⟨0, 0, 1, fun v w hr => cycle_bad next s v w hr hm, fun v w hr => (rCycle_bad next s v w hr hm).mono fun k w' ⟨h1, h2⟩ => ⟨h1, h2 ▸ Below.refl _ _⟩⟩

set_option maxHeartbeats 400000 in
theorem ref_any (x y z : Int) (w : World) :
    Calls Try.prog 12 #[.agg #[.int .i64 x, .int .i64 y, .int .i64 z]] w fun e w' => e = .returned (.agg #[.int .i64 x, .int .i64 y, .int .i64 z]) ∧ Below w.heap.size w w' := by
  go_enter Try.func12, Try.ntmps12
  go_wp2
  refine bodyPost_ret (v := .agg #[.int .i64 x, .int .i64 y, .int .i64 z]) (by simp [results, Try.f12, go_sem]) rfl ?_
  exact ⟨rfl, ((Below.refl _ _).alloc (Nat.le_refl _) _).alloc (by simp) _⟩

theorem row_cell {α : Type} {f : α → Value} {w : World} {B b o n c : Nat} {xs : List α} (h : Row f w B (.slice (some ⟨b, o, none⟩) n c) xs) (j : Nat) (hj : j < xs.length) : w.cell? ⟨b, o + j, none⟩ = some (f xs[j]) := by
  obtain ⟨A, c', e, _, _, hc⟩ := h.shape
  cases e
  obtain ⟨b', o', e, _, hc⟩ := hc (by rintro rfl; simp at hj)
  cases e
  exact hc j hj
theorem row_cell3 {w : World} {B b n c : Nat} {x y z : Int} (h : Ints w B (.slice (some ⟨b, 0, none⟩) n c) [x, y, z]) : w.cell? ⟨b, 0, none⟩ = some (.int .i64 x) ∧ w.cell? ⟨b, 1, none⟩ = some (.int .i64 y) ∧ w.cell? ⟨b, 2, none⟩ = some (.int .i64 z) :=
  ⟨row_cell h 0 (by simp), row_cell h 1 (by simp), row_cell h 2 (by simp)⟩
theorem row_cell2 {w : World} {B b n c : Nat} {x y : Int} (h : Ints w B (.slice (some ⟨b, 0, none⟩) n c) [x, y]) : w.cell? ⟨b, 0, none⟩ = some (.int .i64 x) ∧ w.cell? ⟨b, 1, none⟩ = some (.int .i64 y) :=
  ⟨row_cell h 0 (by simp), row_cell h 1 (by simp)⟩
end Go.Proofs.Ytgckcffgkgfakaa
