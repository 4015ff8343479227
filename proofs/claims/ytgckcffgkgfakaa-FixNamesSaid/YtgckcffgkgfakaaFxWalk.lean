/- The walk of fix.Walk. -/
import Derived.Test.YtgckcffgkgfakaaRows
import Derived.Test.YtgckcffgkgfakaaKit
import Derived.Test.YtgckcffgkgfakaaMap
import Derived.Test.YtgckcffgkgfakaaFxPl
import Derived.Test.YtgckcffgkgfakaaFxW1
import Derived.Test.YtgckcffgkgfakaaFxOf
import Derived.Test.YtgckcffgkgfakaaFxMay
namespace Go.Proofs.Ytgckcffgkgfakaa
open Go.Maps Go.RowKit

theorem fxIntInfo : (Try.prog.info? 3).map (fun i => (i.zero, i.size, i.bytes)) = some (some (.int .i64 0), 1, 8) := by kernel_rfl

def Fx.slen : Value → Nat
  | .slice _ n _ => n
  | _ => 0
theorem Fx.slen_own {w : World} {base : Nat} {e : TypeId} {size : Nat} {v : Value} {n : Nat} {xs : List Value} (h : w.ownsRow base e size v n xs) : Fx.slen v = n := by
  rcases h.2 with ⟨rfl, hn⟩ | ⟨g, cap, cur, rfl, _⟩
  · exact hn.symm
  · rfl

set_option maxHeartbeats 1000000 in
theorem walk_bad (next : List Int) (s b : Int) (v : Value) (w : World) (hr : Ints w w.heap.size v next) (hbad : Fx.mayF next s = false ∨ b < 1 ∨ 1000 < b) :
    Calls Try.prog 8 #[v, .int .i64 s, .int .i64 b] w fun e w' => e = .returned (.tuple #[Fx.ver (0, 0, 0), .slice none 0 0, .int .i64 1]) ∧ Below w.heap.size w w' := by
  have hr2 := hr.alloc (Nat.le_refl _) (.cells #[.int .i64 0, .int .i64 0, .int .i64 0] 25)
  have hcb : (!(Fx.mayF next s) || decide (b < 1) || decide (1000 < b)) = true := by
    simp only [Bool.or_eq_true, Bool.not_eq_true', decide_eq_true_eq]
    rcases hbad with h | h | h
    · exact .inl (.inl h)
    · exact .inl (.inr h)
    · exact .inr h
  by_cases hm : Fx.mayF next s = true
  · have hbb : b < 1 ∨ 1000 < b := by
      rcases hbad with h | h
      · rw [hm] at h; cases h
      · exact h
    by_cases hb1 : b < 1
    all_goals
      go_enter Try.func8, Try.ntmps8
      go_wp2_with (go_at_call 18; refine (may_any next s v _ _ hr2).mono ?_; rintro e w' ⟨rfl, rfl⟩)
      all_goals first | (exfalso; omega) | skip
      all_goals refine bodyPost_ret (v := .tuple #[.agg #[.int .i64 0, .int .i64 0, .int .i64 0], .slice none 0 0, .int .i64 1]) (by simp [results, Try.f8, go_sem]) rfl ?_
      all_goals exact ⟨rfl, (Below.refl _ _).alloc (Nat.le_refl _) _⟩
  · have hm : Fx.mayF next s = false := by simpa using hm
    go_enter Try.func8, Try.ntmps8
    go_wp2_with (go_at_call 18; refine (may_any next s v _ _ hr2).mono ?_; rintro e w' ⟨rfl, rfl⟩)
    refine bodyPost_ret (v := .tuple #[.agg #[.int .i64 0, .int .i64 0, .int .i64 0], .slice none 0 0, .int .i64 1]) (by simp [results, Try.f8, go_sem]) rfl ?_
    exact ⟨rfl, (Below.refl _ _).alloc (Nat.le_refl _) _⟩

set_option maxHeartbeats 2000000 in
theorem walk_any (next : List Int) (s m r : Nat) (b : Int) (v : Value) (w : World) (hr : Ints w w.heap.size v next) (hl : next.length < 1000000) (hm : Fx.mayF next s = true) (hb1 : 1 ≤ b) (hb2 : b ≤ 1000) (hcy : Fx.Cyc (Fx.nx next) s m r) :
    Calls Try.prog 8 #[v, .int .i64 s, .int .i64 b] w fun e w' => ∃ rv, e = .returned (.tuple #[Fx.ver (Fx.walkV m r b), rv, .int .i64 0]) ∧ Ints w' w'.heap.size rv (Fx.ol (Fx.nx next) s (Fx.walkN m r b + 1)) ∧ Below w.heap.size w w' := by
  have hr2 := hr.alloc (Nat.le_refl _) (.cells #[.int .i64 0, .int .i64 0, .int .i64 0] 25)
  obtain ⟨A, c, rfl, l1, m1, hA⟩ := hr.shape
  have HA := Lib.hid hA
  obtain ⟨hin, _, hs⟩ := Fx.mayF_inv hm
  have hs : s < next.length := by omega
  have HC := Lib.hid (And.intro hcy (And.intro hin hs))
  have hmax : max b 1 = b := by omega
  have hwn : Fx.walkN m r b ≤ 1000 := by unfold Fx.walkN; omega
  obtain ⟨i0, hi0, hz0, hz1, hz2⟩ := info_parts fxIntInfo
  clear hA hr hcy hin
  go_enter Try.func8, Try.ntmps8
  go_wp2_with (go_at_call 18; refine (may_any next s _ _ _ hr2).mono ?_; rintro e w' ⟨rfl, rfl⟩)
  refine (judge_any b _).mono ?_
  rintro e w1 ⟨f, rfl, hj, hbj, hS⟩
  rw [hmax] at hj
  have hf : ∃ b1 b3 b4 b5, f = Fx.fv b1 b3 b4 b5 := by
    obtain ⟨c1, c3, c4, c5, bm, last, e, _⟩ := hj
    exact ⟨c1, c3, c4, c5, e⟩
  obtain ⟨b1, b3, b4, b5, rfl⟩ := hf
  have hres : w1.heap[w.heap.size]? = some (.cells #[.int .i64 0, .int .i64 0, .int .i64 0] 25 (0, 0)) := (hbj.block _ (by simp)).trans (heap_alloc_new w _)
  have hbw : Below w.heap.size w w1 := ((Below.refl _ _).alloc (Nat.le_refl _) _).trans (hbj.mono (by simp))
  rw [World.size_alloc] at hj hS
  clear hbj hr2
  simp only [Fx.fv]
  go_wp2_with fail
  go_loopw [10, 11] (fun q x wr => ∃ k : Nat, k ≤ Fx.walkN m r b ∧ x = .int .i64 (Fx.orb (Fx.nx next) s k : Nat) ∧ wr.ownsRow (w.heap.size + 1 + 5) 3 1 q k ((Fx.ol (Fx.nx next) s k).map (.int .i64)) ∧ Fx.Jud wr (w.heap.size + 1) (w.heap.size + 1 + 5) b (Fx.ol (Fx.nx next) s k) (Fx.fv b1 b3 b4 b5) ∧ Below w.heap.size w wr ∧ w.heap.size + 1 + 5 ≤ wr.heap.size ∧ wr.heap[w.heap.size]? = some (.cells #[.int .i64 0, .int .i64 0, .int .i64 0] 25 (0, 0)) ∧ Fx.slen q = k) (fun q _ _ => 1001 - Fx.slen q)
  case atStart => exact ⟨0, Nat.zero_le _, rfl, World.ownsRow_nil _ _ _ _, hj, hbw, hS, hres, rfl⟩
  case round =>
    obtain ⟨k, hk, rfl, hown, hjk, hbk, hsk, hrk, hsl⟩ := hrel
    obtain ⟨hcy, hin, hs0⟩ := HC.out
    have hob := Fx.orb_lt hin hs0 k
    have hxw : (Lit.int .i64 ((Fx.orb (Fx.nx next) s k : Nat) : Int)).wf = true := WalkArith.wf_i64 (by omega)
    have hol := Lib.hid (Fx.ol_succ (Fx.nx next) s k)
    have hpl : (Fx.ol (Fx.nx next) s k).length < 1000000 := by rw [Fx.ol_length]; omega
    have hnx := Fx.nx_at hin hob
    have HNX : Hid (Fx.nx next (Fx.orb (Fx.nx next) s k) = Fx.orb (Fx.nx next) s (k + 1)) := rfl
    obtain ⟨bb, off, rfl, hbb, hc⟩ := HA.out (by rintro rfl; simp at hob)
    have hnc := hc _ hob
    rw [hnx.2, HNX.out] at hnc
    have hjv := Lib.hid (fun h => Fx.walk_on hcy (b := b) k h)
    have hend := Lib.hid (Fx.walk_end hcy hb1)
    have HO := Lib.hid hown
    clear hc hin hcy hnx
    generalize hxo : Fx.orb (Fx.nx next) s k = xo at *
    have hxi0 : (0 : Int) ≤ (xo : Int) := by omega
    have hxi1 : (xo : Int) < (next.length : Int) := by omega
    go_wp2_with (at_builtin; refine wpList_app1 rfl (.tmp 33) (.tmp 35) 22 rfl (w.heap.size + 1 + 5) 3 i0 (.int .i64 0) 8 Try.underlying22 hi0 hz0 hz1 hz2 rfl _ _ _ (.int .i64 (xo : Int)) rfl rfl rfl hown hsk (by simp only [maxLen]; omega) (by omega) ?_; intro q' w3 ho3 hb3 hg3)
    have hj3 := hjk.keepS (w' := w3) fun j hj1 hj2 => hb3.block j hj2
    have hs3 := hb3.size
    refine (take_any (xo : Int) hj3 (by omega) hxw hpl).mono ?_
    rintro e w4 ⟨rfl, hb4, hS4, hj4⟩
    have ho4 : w4.ownsRow (w.heap.size + 1 + 5) 3 1 q' (k + 1) ((Fx.ol (Fx.nx next) s (k + 1)).map (.int .i64)) := by
      rw [hol.out]
      refine ⟨by rw [List.map_append]; exact ho3.1, ?_⟩
      rcases ho3.2 with h2 | ⟨g, cap, cur, hq, hbg, hg, rest⟩
      · exact .inl h2
      · refine .inr ⟨g, cap, cur, hq, hbg, (hS4 g (lt_of_block hg) hbg).trans hg, ?_⟩
        rw [List.map_append]
        exact rest
    have hrk4 := (hb4.block _ (by omega)).trans ((hb3.block _ (by omega)).trans hrk)
    have hs4 := hb4.size
    have hbk4 := (hbk.trans (hb3.mono (by omega))).trans (hb4.mono (by omega))
    obtain ⟨y0, y1, y2, z0, z1, z2⟩ := Fx.res3 hrk4
    have hlt4 : w.heap.size < w4.heap.size := by omega
    clear ho3 hb3 hg3 hj3 hjk hb4 hown hbk hrk
    by_cases hkn : k < Fx.walkN m r b
    · have hv0 := hjv.out hkn
      rw [hv0] at hj4 ⊢
      have hj5 := hj4 rfl
      clear hv0 hj4
      simp only [Fx.ver]
      have hb5 := hbk4.alloc (by omega) (.cells #[.int .i64 0, .int .i64 0, .int .i64 0] 25)
      have hcell := (hb5.cell (p := ⟨bb, off + xo, none⟩) hbb).trans hnc
      go_wp2_with fail
      go_roundw
      case rel => exact ⟨k + 1, by omega, rfl, ho4.alloc _, by rw [hol.out]; exact hj5.keep ((Below.refl _ _).alloc (Nat.le_refl _) _), hb5, by simp; omega, (Below.heap_alloc _ _ _ (by omega)).trans hrk4, Fx.slen_own ho4⟩
      case measure => rw [hsl, Fx.slen_own ho4]; omega
    · obtain rfl : k = Fx.walkN m r b := by omega
      obtain ⟨hv1, hv2⟩ := hend.out
      rw [hxo] at hv1
      rw [hv1]
      clear hj4 hv1
      obtain ⟨⟨kd, vi, vj⟩, hans⟩ : ∃ a : Fx.V, Fx.walkV m r b = a := ⟨_, rfl⟩
      have HANS := Lib.hid hans
      rw [hans] at hv2 ⊢
      have hne : (kd != 0) = true := by simpa using hv2
      simp only [Fx.ver]
      clear hend hans hv2
      obtain ⟨gq, cq, rfl⟩ : ∃ g c, q' = .slice (some ⟨g, 0, none⟩) (Fx.walkN m r b + 1) c := by
        rcases ho4.2 with ⟨_, h0⟩ | ⟨g, cap, cur, hq, _⟩
        · omega
        · exact ⟨g, cap, hq⟩
      go_wp2_with fail
      have r3 := Fx.res3_set hrk4 (.int .i64 kd) (.int .i64 vi) (.int .i64 vj)
      have r4 := (Below.heap_alloc _ (.cells #[.int .i64 kd, .int .i64 vi, .int .i64 vj] 25) _ (lt_of_block r3)).trans r3
      obtain ⟨u0, u1, u2⟩ := Fx.res3_get r4
      refine bodyPost_ret (v := .tuple #[.agg #[.int .i64 kd, .int .i64 vi, .int .i64 vj], .slice (some ⟨gq, 0, none⟩) (Fx.walkN m r b + 1) cq, .int .i64 0]) (by simp [results, Try.f8, go_sem, u0, u1, u2]) rfl ?_
      have hgq := (ho4.lt gq rfl).1
      have ho5 := ((ownsRow_setCell_other (a := ⟨w.heap.size, 2, none⟩) (ownsRow_setCell_other (a := ⟨w.heap.size, 1, none⟩) (ownsRow_setCell_other (a := ⟨w.heap.size, 0, none⟩) ho4 (by simp [Value.ownBlock]; omega) (.int .i64 kd)) (by simp [Value.ownBlock]; omega) (.int .i64 vi)) (by simp [Value.ownBlock]; omega) (.int .i64 vj))).alloc (.cells #[.int .i64 kd, .int .i64 vi, .int .i64 vj] 25)
      refine ⟨_, by rw [HANS.out]; rfl, Row.own ho5, ?_⟩
      exact (((hbk4.setCell (p := ⟨w.heap.size, 0, none⟩) (Nat.le_refl _) _).setCell (p := ⟨w.heap.size, 1, none⟩) (Nat.le_refl _) _).setCell (p := ⟨w.heap.size, 2, none⟩) (Nat.le_refl _) _).alloc (by simp; omega) _
end Go.Proofs.Ytgckcffgkgfakaa
