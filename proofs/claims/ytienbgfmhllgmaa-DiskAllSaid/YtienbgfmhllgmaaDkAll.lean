/- The walk of stetlaw04.DiskAll. -/
import Derived.Test.YtienbgfmhllgmaaRows
import Derived.Test.YtienbgfmhllgmaaKit
import Derived.Test.YtienbgfmhllgmaaRowC
import Derived.Test.YtienbgfmhllgmaaDk6
import Derived.Test.YtienbgfmhllgmaaDk7
import Derived.Test.YtienbgfmhllgmaaDk8
import Derived.Test.YtienbgfmhllgmaaDkKeeps
import Derived.Test.YtienbgfmhllgmaaDkOne
import Derived.Test.YtienbgfmhllgmaaDkApp
import Derived.RangeFuncBox
namespace Go.Proofs.Ytienbgfmhllgmaa
open Go.Maps Go.RowKit

set_option maxRecDepth 100000 in
set_option maxHeartbeats 4000000 in
theorem all_any (v0 : Value) (z0 : List (Int × Int)) (w : World) (h0 : RowC 2 (fun x : Int × Int => [Value.int .u8 x.1, Value.int .u8 x.2]) w w.heap.size v0 z0) (ok0 : ∀ x ∈ z0, (Lit.int .u8 x.1).wf = true ∧ (Lit.int .u8 x.2).wf = true) :
    Calls Try.prog 5 #[v0] w fun e w' => e = .returned (.bool true) ∧ Below w.heap.size w w' := by
  obtain ⟨A0, c0, rfl, l0, m0, hA0⟩ := h0.shape
  obtain ⟨i0, hi0, hz0, hz1, hz2⟩ := info_parts boolInfo
  have HA0 := Lib.hid hA0
  have HO0 := Lib.hid ok0
  clear hA0 ok0 h0
  go_enter Try.func5, Try.ntmps5
  go_upto_block 0 with fail
  refine (new_in (B := w.heap.size) 6 (by decide) (Nat.le_refl _) (Below.refl _ _)).mono ?_
  rintro e w1 ⟨a, rfl, hin⟩
  go_upto_block 0 with fail
  refine (new_in2 6 (by decide) hin).mono ?_
  rintro e w2 ⟨b, rfl, hin2⟩
  have hin3 := (Dk.In2R.of_in2 hin2).add (.cells #[] 4)
  have ho3 := World.ownsRow_made w2 #[] 0 hin2.1 (by decide) (e := 4) (size := 1) rfl
  clear hin hin2
  go_upto_block 0 with fail
  go_cut [3, 5, 7] (fun p q v wx => p = .pointer (some ⟨a, 0, none⟩) ∧ q = .pointer (some ⟨b, 0, none⟩) ∧ ∃ P : List Dk.Wr, P.length ≤ 20 ∧ Dk.In2R w.heap.size w wx a ⟨none, 6, fun _ => none, 0, P⟩ b ⟨none, 6, fun _ => none, 0, P⟩ v.ownBlock.toList ∧ wx.ownsRow w.heap.size 4 1 v P.length ((List.replicate P.length true).map Value.bool))
  case first =>
    go_wp2
    go_loopw [7, 8] (fun v i wr => ∃ P : List Dk.Wr, P.length ≤ z0.length ∧ P.length ≤ 20 ∧ i = .int .i64 P.length ∧ Dk.In2R w.heap.size w wr a ⟨none, 6, fun _ => none, 0, P⟩ b ⟨none, 6, fun _ => none, 0, P⟩ v.ownBlock.toList ∧ wr.ownsRow w.heap.size 4 1 v P.length ((List.replicate P.length true).map Value.bool)) (fun _ i _ => 20 - (intOf i).toNat)
    case atStart => exact ⟨[], Nat.zero_le _, Nat.zero_le _, rfl, hin3, ho3⟩
    case round =>
      obtain ⟨P, hk0, hk20, rfl, hin4, ho4⟩ := hrel
      by_cases hlt : P.length < z0.length ∧ P.length < 20
      · obtain ⟨hlt0, hlt20⟩ := hlt
        obtain ⟨b1, off, rfl, hb, hc⟩ := HA0.out (by rintro rfl; simp at hlt0)
        have hcl0 := hc P.length hlt0 0 _ rfl
        have hcl1 := hc P.length hlt0 1 _ rfl
        have hx1 : (P.length : Int) < (z0.length : Int) := by omega
        have hx2 : (P.length : Int) < 20 := by omega
        have hu8 := bounds_u8 (HO0.out _ (List.getElem_mem hlt0)).1
        clear hc
        generalize z0[P.length].1 = z at *
        generalize z0[P.length].2 = y at *
        obtain ⟨r, hr⟩ : ∃ r : Nat, z % 6 = (r : Int) := ⟨(z % 6).toNat, by omega⟩
        have hr4' : (r : Int) < 6 := by omega
        obtain ⟨s, hs1, hs⟩ := byte1 y
        obtain ⟨hin5, hsm5⟩ := hin4.below ((Below.refl _ _).alloc (Nat.le_refl _) (.cells #[.int .u8 y] 5))
        have hcell4 := (hin4.2.1.cell (p := ⟨b1, off + P.length * 2 + 1, none⟩) hb).trans hcl1
        have hcell5 := (hin5.2.1.cell (p := ⟨b1, off + P.length * 2, none⟩) hb).trans hcl0
        go_wp2_with fail
        refine (write_ok_in2R (r : Int) s hin5 (by simp; omega) rfl (by omega) (by omega) (by simpa using hr4') (by simp)).mono ?_
        rintro e w6 ⟨rfl, hin6, hsm6⟩
        have hcell6 := (hin6.2.1.cell (p := ⟨b1, off + P.length * 2, none⟩) hb).trans hcl0
        clear hcell4 hcell5
        go_wp2_with fail
        refine (write_ok_in2R' (r : Int) s hin6 (by simp; omega) rfl (by omega) (by omega) (by simpa using hr4') (by simp)).mono ?_
        rintro e w7 ⟨rfl, hin7, hsm7⟩
        replace hin7 : Dk.In2R w.heap.size w w7 a ⟨none, 6, fun _ => none, 0, P ++ [((r : Int), s)]⟩ b ⟨none, 6, fun _ => none, 0, P ++ [((r : Int), s)]⟩ _ := hin7
        have ho7 := own_same ho4 (fun k hk => ((hsm7 k hk).trans (hsm6 k hk)).trans (hsm5 k hk))
        clear hcell6
        go_wp2_with (at_builtin; refine wpList_app1b rfl (.tmp 79) (.tmp 80) 39 rfl w.heap.size 4 i0 _ 1 Try.underlying39 hi0 hz0 hz1 hz2 rfl _ P.length ((List.replicate P.length true).map Value.bool) (.bool true) rfl rfl _ rfl rfl ho7 hin7.1 (by simp only [maxLen]; omega) (by omega) ?_; intro v' w8 ho8 hg8 hb8; have hin8 := hin7.grown hg8 ho8 hb8)
        go_roundw
        case rel => exact ⟨P ++ [((r : Int), s)], by simp; omega, by simp; omega, by simp, hin8, by simpa [List.replicate_succ'] using ho8⟩
        case measure => simp [intOf]; omega
      · by_cases hz : P.length < z0.length
        all_goals
          go_wp2
          go_meet
          exact ⟨rfl, rfl, P, by omega, hin4, ho4⟩
  case rest =>
    obtain ⟨rfl, rfl, P, hPl, hin4, ho4⟩ := hcut
    clear ho3 hin3
    go_wp2_with fail
    refine (sync_in2R 0 hin4 (by simp; omega) rfl).mono ?_
    rintro e w5 ⟨rfl, hin5, hsm5⟩
    replace hin5 : Dk.In2R w.heap.size w w5 a ⟨none, 6, Dk.puts (fun _ => none) P, 0 + P.length, []⟩ b ⟨none, 6, fun _ => none, 0, P⟩ u7.ownBlock.toList := hin5
    have ho5 := own_same ho4 hsm5
    go_wp2_with fail
    refine (crash_own2R _ (List.replicate P.length true) P.length hin5.swap (by simp; omega) ho5 (fun k hk => by simp [hk])).mono ?_
    rintro e w6 ⟨rfl, hin6, _⟩
    have hcr : Dk.crash ⟨none, 6, fun _ => none, 0, P⟩ (List.replicate P.length true) = ⟨none, 6, Dk.puts (fun _ => none) P, 0 + P.length, []⟩ := by simp [Dk.crash, Dk.kept_all]
    rw [hcr] at hin6
    generalize Dk.puts (fun _ => none) P = H at *
    generalize hC : 0 + P.length = C at *
    have hC2 : C ≤ 20 := by omega
    clear hcr hC hPl hin4 hin5 ho4 ho5 hsm5
    go_wp2_with fail
    go_loopw [10] (fun i wr => ∃ k : Nat, k ≤ 6 ∧ i = .int .i64 k ∧ Dk.In2R w.heap.size w wr b ⟨none, 6, H, C, []⟩ a ⟨none, 6, H, C, []⟩ u7.ownBlock.toList) (fun i _ => 6 - (intOf i).toNat)
    case atStart => exact ⟨0, Nat.zero_le _, rfl, hin6⟩
    case round =>
      obtain ⟨k, hk, rfl, hin7⟩ := hrel
      by_cases hlt : k < 6
      · have hx : (k : Int) < 6 := by omega
        have hrd : Hid (Dk.read ⟨none, 6, H, C, []⟩ k = (Dk.vl H k, 0)) := by
          show _ = _
          rw [Dk.read_in _ _ (by omega) hx, Dk.at_vl]
          rfl
        generalize Dk.vl H (k : Int) = t at hrd
        go_wp2_with fail
        refine (read_in _ (k : Int) hin7.swap.fst.to_in (by simp) (WalkArith.wf_i64 (by omega)) hrd.out).mono ?_
        rintro e w8 ⟨rfl, hb8⟩
        obtain ⟨hin8, _⟩ := hin7.below hb8
        go_wp2_with fail
        refine (read_in _ (k : Int) hin8.fst.to_in (by simp) (WalkArith.wf_i64 (by omega)) hrd.out).mono ?_
        rintro e w9 ⟨rfl, hb9⟩
        obtain ⟨hin9, _⟩ := hin8.below hb9
        go_wp2_with fail
        go_roundw
        case rel => exact ⟨k + 1, by omega, by go_num, hin9⟩
        case measure => simp [intOf]; omega
      · obtain rfl : k = 6 := by omega
        go_wp2_with fail
        refine (pending_in hin7.swap.fst.to_in).mono ?_
        rintro e w' ⟨rfl, rfl⟩
        go_wp2_with fail
        refine (pending_in hin7.fst.to_in).mono ?_
        rintro e w' ⟨rfl, rfl⟩
        go_wp2_with fail
        refine (dfixed_any _).mono ?_
        rintro e w9 ⟨rfl, hb9⟩
        go_wp2_with fail
        go_ret
        exact ⟨rfl, (hin7.below hb9).1.2.1⟩
end Go.Proofs.Ytienbgfmhllgmaa
