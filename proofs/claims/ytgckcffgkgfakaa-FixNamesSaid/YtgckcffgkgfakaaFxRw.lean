/- The walks of stetref23.Walk, stetref23.Cycle. -/
import Derived.Test.YtgckcffgkgfakaaRows
import Derived.Test.YtgckcffgkgfakaaKit
import Derived.Test.YtgckcffgkgfakaaFxPl
import Derived.Test.YtgckcffgkgfakaaFxW1
import Derived.Test.YtgckcffgkgfakaaFxOf
import Derived.Test.YtgckcffgkgfakaaFxMay
import Derived.Test.YtgckcffgkgfakaaFxWalk
import Derived.Test.YtgckcffgkgfakaaFxRof
namespace Go.Proofs.Ytgckcffgkgfakaa
open Go.RowKit

namespace Fx
theorem go_snoc (B : Int) (xs : List Int) (x : Int) : ∀ pre, (go B pre xs).1 = 0 → go B pre (xs ++ [x]) = jv B (pre ++ xs) x := by
  induction xs with
  | nil =>
    intro pre _
    simp only [List.nil_append, List.append_nil, go]
    by_cases h : (jv B pre x).1 = 0
    · rw [if_neg (by simpa using h), (jv_zero h).1]
    · rw [if_pos h]
  | cons y ys ih =>
    intro pre h
    by_cases hy : (jv B pre y).1 = 0
    · rw [go_step _ _ _ _ hy] at h
      rw [List.cons_append, go_step _ _ _ _ hy, ih _ h, List.append_assoc]
      rfl
    · rw [go_stop _ _ _ _ hy] at h
      exact absurd h hy
theorem of_on {f : Nat → Nat} {s m r : Nat} (h : Cyc f s m r) {b : Int} (hb : 1 ≤ b) (k : Nat) (hk : k ≤ walkN m r b) : ofF (ol f s k) b = (0, 0, 0) := by
  have hmax : max b 1 = b := by omega
  induction k with
  | zero => rfl
  | succ k ih =>
    have h1 := ih (by omega)
    unfold ofF at h1 ⊢
    rw [hmax] at h1 ⊢
    rw [ol_succ, go_snoc _ _ _ _ (by rw [h1]), List.nil_append, walk_on h k (by omega)]
theorem of_end {f : Nat → Nat} {s m r : Nat} (h : Cyc f s m r) {b : Int} (hb : 1 ≤ b) : ofF (ol f s (walkN m r b + 1)) b = walkV m r b := by
  have hmax : max b 1 = b := by omega
  have h1 := of_on h hb _ (Nat.le_refl _)
  unfold ofF at h1 ⊢
  rw [hmax] at h1 ⊢
  rw [ol_succ, go_snoc _ _ _ _ (by rw [h1]), List.nil_append, (walk_end h hb).1]
end Fx

set_option maxHeartbeats 1000000 in
theorem rWalk_bad (next : List Int) (s b : Int) (v : Value) (w : World) (hr : Ints w w.heap.size v next) (hbad : Fx.mayF next s = false ∨ b < 1 ∨ 1000 < b) :
    Calls Try.prog 9 #[v, .int .i64 s, .int .i64 b] w fun e w' => e = .returned (.tuple #[.agg #[.int .i64 0, .int .i64 0, .int .i64 0], .slice none 0 0, .int .i64 1]) ∧ Below w.heap.size w w' := by
  have hr2 := hr.alloc (Nat.le_refl _) (.cells #[.int .i64 0, .int .i64 0, .int .i64 0] 29)
  by_cases hm : Fx.mayF next s = true
  · have hbb : b < 1 ∨ 1000 < b := by
      rcases hbad with h | h
      · rw [hm] at h; cases h
      · exact h
    by_cases hb1 : b < 1
    all_goals
      go_enter Try.func9, Try.ntmps9
      go_wp2_with (go_at_call 20; refine (rMay_any next s v _ _ hr2).mono ?_; rintro e w' ⟨rfl, rfl⟩)
      all_goals first | (exfalso; omega) | skip
      all_goals refine bodyPost_ret (v := .tuple #[.agg #[.int .i64 0, .int .i64 0, .int .i64 0], .slice none 0 0, .int .i64 1]) (by simp [results, Try.f9, go_sem]) rfl ?_
      all_goals exact ⟨rfl, (Below.refl _ _).alloc (Nat.le_refl _) _⟩
  · have hm : Fx.mayF next s = false := by simpa using hm
    go_enter Try.func9, Try.ntmps9
    go_wp2_with (go_at_call 20; refine (rMay_any next s v _ _ hr2).mono ?_; rintro e w' ⟨rfl, rfl⟩)
    refine bodyPost_ret (v := .tuple #[.agg #[.int .i64 0, .int .i64 0, .int .i64 0], .slice none 0 0, .int .i64 1]) (by simp [results, Try.f9, go_sem]) rfl ?_
    exact ⟨rfl, (Below.refl _ _).alloc (Nat.le_refl _) _⟩

set_option maxHeartbeats 2000000 in
theorem rWalk_any (next : List Int) (s m r : Nat) (b : Int) (v : Value) (w : World) (hr : Ints w w.heap.size v next) (hl : next.length < 1000000) (hm : Fx.mayF next s = true) (hb1 : 1 ≤ b) (hb2 : b ≤ 1000) (hcy : Fx.Cyc (Fx.nx next) s m r) :
    Calls Try.prog 9 #[v, .int .i64 s, .int .i64 b] w fun e w' => ∃ rv, e = .returned (.tuple #[Fx.ver (Fx.walkV m r b), rv, .int .i64 0]) ∧ Ints w' w'.heap.size rv (Fx.ol (Fx.nx next) s (Fx.walkN m r b + 1)) ∧ Below w.heap.size w w' := by
  have hr2 := hr.alloc (Nat.le_refl _) (.cells #[.int .i64 0, .int .i64 0, .int .i64 0] 29)
  obtain ⟨A, c, rfl, l1, m1, hA⟩ := hr.shape
  have HA := Lib.hid hA
  obtain ⟨hin, _, hs⟩ := Fx.mayF_inv hm
  have hs : s < next.length := by omega
  have HC := Lib.hid (And.intro hcy (And.intro hin hs))
  have hbw := WalkArith.wf_i64 (n := b) (by omega)
  have hwn : Fx.walkN m r b ≤ 1000 := by unfold Fx.walkN; omega
  obtain ⟨i0, hi0, hz0, hz1, hz2⟩ := info_parts fxIntInfo
  have hres := (Below.heap_alloc (w.alloc (.cells #[.int .i64 0, .int .i64 0, .int .i64 0] 29)) (.cells #[] 3) w.heap.size (by simp)).trans (heap_alloc_new w (.cells #[.int .i64 0, .int .i64 0, .int .i64 0] 29))
  have hown0 := World.ownsRow_made (w.alloc (.cells #[.int .i64 0, .int .i64 0, .int .i64 0] 29)) #[] 0 (e := 3) (base := w.heap.size + 1) (size := 1) (by simp) (by decide) rfl
  have hbel0 : Below w.heap.size w ((w.alloc (.cells #[.int .i64 0, .int .i64 0, .int .i64 0] 29)).alloc (.cells #[] 3)) := ((Below.refl _ _).alloc (Nat.le_refl _) _).alloc (by simp) _
  rw [World.size_alloc] at hown0
  have HX := Lib.hid (And.intro hres (And.intro hown0 hbel0))
  clear hA hr hcy hin hres hown0 hbel0
  go_enter Try.func9, Try.ntmps9
  go_wp2_with (go_at_call 20; refine (rMay_any next s _ _ _ hr2).mono ?_; rintro e w' ⟨rfl, rfl⟩)
  go_loopw [9, 10] (fun q x wr => ∃ k : Nat, k ≤ Fx.walkN m r b ∧ x = .int .i64 (Fx.orb (Fx.nx next) s k : Nat) ∧ wr.ownsRow (w.heap.size + 1) 3 1 q k ((Fx.ol (Fx.nx next) s k).map (.int .i64)) ∧ Below w.heap.size w wr ∧ w.heap.size + 1 ≤ wr.heap.size ∧ wr.heap[w.heap.size]? = some (.cells #[.int .i64 0, .int .i64 0, .int .i64 0] 29 (0, 0)) ∧ Fx.slen q = k) (fun q _ _ => 1001 - Fx.slen q)
  case atStart => exact ⟨0, Nat.zero_le _, rfl, HX.out.2.1, HX.out.2.2, by simp, HX.out.1, rfl⟩
  case round =>
    obtain ⟨k, hk, rfl, hown, hbk, hsk, hrk, hsl⟩ := hrel
    obtain ⟨hcy, hin, hs0⟩ := HC.out
    have hob := Fx.orb_lt hin hs0 k
    have hol := Lib.hid (Fx.ol_succ (Fx.nx next) s k)
    have hnx := Fx.nx_at hin hob
    have HNX : Hid (Fx.nx next (Fx.orb (Fx.nx next) s k) = Fx.orb (Fx.nx next) s (k + 1)) := rfl
    obtain ⟨bb, off, rfl, hbb, hc⟩ := HA.out (by rintro rfl; simp at hob)
    have hnc := hc _ hob
    rw [hnx.2, HNX.out] at hnc
    have hon := Lib.hid (fun h => Fx.of_on hcy hb1 (k + 1) h)
    have hend := Lib.hid (Fx.of_end hcy hb1)
    have hend2 := Lib.hid (Fx.walk_end hcy hb1).2
    clear hc hin hcy hnx
    generalize hxo : Fx.orb (Fx.nx next) s k = xo at *
    have hxi0 : (0 : Int) ≤ (xo : Int) := by omega
    have hxi1 : (xo : Int) < (next.length : Int) := by omega
    go_wp2_with (at_builtin; refine wpList_app1 rfl (.tmp 27) (.tmp 29) 22 rfl (w.heap.size + 1) 3 i0 (.int .i64 0) 8 Try.underlying22 hi0 hz0 hz1 hz2 rfl _ _ _ (.int .i64 (xo : Int)) rfl rfl rfl hown hsk (by simp only [maxLen]; omega) (by omega) ?_; intro q' w3 ho3 hb3 hg3)
    have hs3 := hb3.size
    have ho3' : w3.ownsRow (w.heap.size + 1) 3 1 q' (k + 1) ((Fx.ol (Fx.nx next) s (k + 1)).map (.int .i64)) := by
      rw [hol.out, List.map_append]
      exact ho3
    have hll : (Fx.ol (Fx.nx next) s (k + 1)).length < 1000000 := by rw [Fx.ol_length]; omega
    refine (rOf_any (Fx.ol (Fx.nx next) s (k + 1)) b q' w3 (Row.own ho3') hll hbw).mono ?_
    rintro e w4 ⟨rfl, hb4⟩
    have ho4 := own_below ho3' hb4
    have hrk4 := (hb4.block _ (by omega)).trans ((hb3.block _ (by omega)).trans hrk)
    have hs4 := hb4.size
    have hbk4 := (hbk.trans (hb3.mono (by omega))).trans (hb4.mono (by omega))
    obtain ⟨y0, y1, y2, z0, z1, z2⟩ := Fx.res3 hrk4
    have hlt4 : w.heap.size < w4.heap.size := by omega
    clear ho3 hb3 hg3 hb4 hown hbk hrk ho3' hll
    by_cases hkn : k < Fx.walkN m r b
    · have hv0 := hon.out (by omega)
      rw [hv0]
      clear hv0
      simp only [Fx.ver]
      have hb5 := hbk4.alloc (by omega) (.cells #[.int .i64 0, .int .i64 0, .int .i64 0] 29)
      have hcell := (hb5.cell (p := ⟨bb, off + xo, none⟩) hbb).trans hnc
      go_wp2_with fail
      go_roundw
      case rel => exact ⟨k + 1, by omega, rfl, ho4.alloc _, hb5, by simp; omega, (Below.heap_alloc _ _ _ (by omega)).trans hrk4, Fx.slen_own ho4⟩
      case measure => rw [hsl, Fx.slen_own ho4]; omega
    · obtain rfl : k = Fx.walkN m r b := by omega
      rw [hend.out]
      obtain ⟨⟨kd, vi, vj⟩, hans⟩ : ∃ a : Fx.V, Fx.walkV m r b = a := ⟨_, rfl⟩
      have HANS := Lib.hid hans
      have hv2 := hend2.out
      rw [hans] at hv2 ⊢
      have hne : (kd != 0) = true := by simpa using hv2
      simp only [Fx.ver]
      clear hend hend2 hans hv2
      obtain ⟨gq, cq, rfl⟩ : ∃ g c, q' = .slice (some ⟨g, 0, none⟩) (Fx.walkN m r b + 1) c := by
        rcases ho4.2 with ⟨_, h0⟩ | ⟨g, cap, cur, hq, _⟩
        · omega
        · exact ⟨g, cap, hq⟩
      go_wp2_with fail
      have r3 := Fx.res3_set hrk4 (.int .i64 kd) (.int .i64 vi) (.int .i64 vj)
      have r4 := (Below.heap_alloc _ (.cells #[.int .i64 kd, .int .i64 vi, .int .i64 vj] 29) _ (lt_of_block r3)).trans r3
      obtain ⟨u0, u1, u2⟩ := Fx.res3_get r4
      refine bodyPost_ret (v := .tuple #[.agg #[.int .i64 kd, .int .i64 vi, .int .i64 vj], .slice (some ⟨gq, 0, none⟩) (Fx.walkN m r b + 1) cq, .int .i64 0]) (by simp [results, Try.f9, go_sem, u0, u1, u2]) rfl ?_
      have hgq := (ho4.lt gq rfl).1
      have ho5 := ((ownsRow_setCell_other (a := ⟨w.heap.size, 2, none⟩) (ownsRow_setCell_other (a := ⟨w.heap.size, 1, none⟩) (ownsRow_setCell_other (a := ⟨w.heap.size, 0, none⟩) ho4 (by simp [Value.ownBlock]; omega) (.int .i64 kd)) (by simp [Value.ownBlock]; omega) (.int .i64 vi)) (by simp [Value.ownBlock]; omega) (.int .i64 vj))).alloc (.cells #[.int .i64 kd, .int .i64 vi, .int .i64 vj] 29)
      refine ⟨_, by rw [HANS.out]; rfl, Row.own ho5, ?_⟩
      exact (((hbk4.setCell (p := ⟨w.heap.size, 0, none⟩) (Nat.le_refl _) _).setCell (p := ⟨w.heap.size, 1, none⟩) (Nat.le_refl _) _).setCell (p := ⟨w.heap.size, 2, none⟩) (Nat.le_refl _) _).alloc (by simp; omega) _
end Go.Proofs.Ytgckcffgkgfakaa
