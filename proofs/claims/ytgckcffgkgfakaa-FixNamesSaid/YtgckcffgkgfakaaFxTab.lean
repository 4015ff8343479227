/- The walk of stetlaw23.table. -/
import Derived.Test.YtgckcffgkgfakaaRows
import Derived.Test.YtgckcffgkgfakaaKit
import Derived.Test.YtgckcffgkgfakaaFxPl
import Derived.Test.YtgckcffgkgfakaaFxMay
import Derived.Test.YtgckcffgkgfakaaFxWalk
import Derived.Test.YtgckcffgkgfakaaFxLaw
namespace Go.Proofs.Ytgckcffgkgfakaa
open Go.RowKit

namespace Fx
def tbl (l : List Int) : List Int := if l.length = 0 then [0] else (l.take 40).map fun x => x % (min l.length 40 : Nat)
theorem tbl_length (l : List Int) : (tbl l).length = if l.length = 0 then 1 else min l.length 40 := by
  unfold tbl
  split <;> simp [Nat.min_comm]
theorem tbl_pos (l : List Int) : 1 ≤ (tbl l).length ∧ (tbl l).length ≤ 40 := by
  rw [tbl_length]
  split <;> omega
theorem tbl_may (l : List Int) (s : Int) (h0 : 0 ≤ s) (h1 : s < (tbl l).length) : mayF (tbl l) s = true := by
  simp only [mayF, inT, Bool.and_eq_true, List.all_eq_true, decide_eq_true_eq]
  refine ⟨fun x hx => ?_, h0, h1⟩
  have hl := tbl_length l
  by_cases hn : l.length = 0
  · rw [if_pos hn] at hl
    unfold tbl at hx
    rw [if_pos hn] at hx
    simp at hx
    omega
  · rw [if_neg hn] at hl
    unfold tbl at hx
    rw [if_neg hn] at hx
    simp only [List.mem_map] at hx
    obtain ⟨y, _, rfl⟩ := hx
    have h2 : (0 : Int) < ((min l.length 40 : Nat) : Int) := by omega
    have h3 := Int.emod_nonneg y (Int.ne_of_gt h2)
    have h4 := Int.emod_lt_of_pos y h2
    omega
end Fx

set_option maxHeartbeats 2000000 in
theorem table_any (l : List Int) (fr : Int) (v : Value) (w : World) (hr : Row (Value.int .u8) w w.heap.size v l) (ok : ∀ x ∈ l, (Lit.int .u8 x).wf = true) (hf : (Lit.int .u8 fr).wf = true) :
    Calls Try.prog 17 #[v, .int .u8 fr] w fun e w' => ∃ rv, e = .returned (.tuple #[rv, .int .i64 (fr % (Fx.tbl l).length)]) ∧ Ints w' w'.heap.size rv (Fx.tbl l) ∧ Below w.heap.size w w' := by
  obtain ⟨A, c, rfl, l1, m1, hA⟩ := hr.shape
  have HA := Lib.hid hA
  have HO := Lib.hid ok
  have hfb := bounds_u8 hf
  obtain ⟨i0, hi0, hz0, hz1, hz2⟩ := info_parts fxIntInfo
  have hown0 := World.ownsRow_made w #[] 0 (e := 3) (base := w.heap.size) (size := 1) (Nat.le_refl _) (by decide) rfl
  have HX := Lib.hid hown0
  obtain ⟨n, hn⟩ : ∃ n, n = min l.length 40 := ⟨_, rfl⟩
  have HN := Lib.hid hn
  have hn40 : n ≤ 40 := by omega
  have hnl : n ≤ l.length := by omega
  have hn0 : 0 < l.length → 0 < n := by omega
  clear hA hr ok hown0 hf hn
  go_enter Try.func17, Try.ntmps17
  go_upto_block 0 with fail
  go_cut [6] (fun q wx => wx.ownsRow w.heap.size 3 1 q n (((l.take n).map fun x => x % (n : Int)).map (.int .i64)) ∧ Below w.heap.size w wx ∧ w.heap.size ≤ wx.heap.size)
  case first =>
    go_wp2
    go_loopw [6, 7] (fun q i wr => ∃ k : Nat, k ≤ n ∧ i = .int .i64 k ∧ wr.ownsRow w.heap.size 3 1 q k (((l.take k).map fun x => x % (n : Int)).map (.int .i64)) ∧ Below w.heap.size w wr ∧ w.heap.size ≤ wr.heap.size) (fun _ i _ => 40 - (intOf i).toNat)
    case atStart => exact ⟨0, Nat.zero_le _, rfl, HX.out, (Below.refl _ _).alloc (Nat.le_refl _) _, by simp⟩
    case round =>
      obtain ⟨k, hk, rfl, hown, hbel, hsz⟩ := hrel
      by_cases hlt : k < n
      · have hkl : k < l.length := by omega
        obtain ⟨bb, off, rfl, hbb, hc⟩ := HA.out (by rintro rfl; simp at hkl)
        have hcell := (hbel.cell (p := ⟨bb, off + k, none⟩) hbb).trans (hc k hkl)
        have hx := bounds_u8 (HO.out _ (List.getElem_mem hkl))
        have hk1 : (k : Int) < (l.length : Int) := by omega
        have hk2 : (k : Int) < 40 := by omega
        have HS : Hid (((l.take (k + 1)).map fun x => x % (n : Int)).map (Value.int .i64) = ((l.take k).map fun x => x % (n : Int)).map (Value.int .i64) ++ [.int .i64 (l[k] % (n : Int))]) := by
          show _ = _
          rw [List.take_succ_eq_append_getElem hkl, List.map_append, List.map_append]; rfl
        have hmin : (if 40 < (l.length : Int) then (40 : Int) else (l.length : Int)) = (n : Int) := by have := HN.out; split <;> omega
        have hnp : (0 : Int) < (n : Int) := by omega
        have hnn : ((n : Int) == 0) = false := by simp; omega
        clear hc
        generalize l[k] = z at *
        go_wp2_with (at_builtin; refine wpList_app1 rfl (.tmp 19) (.tmp 29) 22 rfl w.heap.size 3 i0 (.int .i64 0) 8 Try.underlying22 hi0 hz0 hz1 hz2 rfl _ _ _ (.int .i64 (z % (n : Int))) rfl rfl rfl hown hsz (by simp only [maxLen]; omega) (by omega) ?_; intro v' w3 hown' hbel' _)
        go_roundw
        case rel => exact ⟨k + 1, by omega, by go_num, by rw [HS.out]; exact hown', hbel.trans hbel', Nat.le_trans hsz hbel'.size⟩
        case measure => simp [intOf]; omega
      · obtain rfl : k = n := by omega
        have hk := HN.out
        by_cases hz : k < l.length
        all_goals
          go_wp2
          go_meet
          exact ⟨hown, hbel, hsz⟩
  case rest =>
    obtain ⟨hown, hbel, hsz⟩ := hcut
    have hll : ((l.take n).map fun x => x % (n : Int)).length = n := by simp; omega
    obtain ⟨gq, cq, hq⟩ : ∃ gq cq, u6 = .slice gq n cq := by
      rcases hown.2 with ⟨rfl, h0⟩ | ⟨g, cap, cur, rfl, _⟩
      · exact ⟨none, 0, by rw [h0]⟩
      · exact ⟨_, cap, rfl⟩
    subst hq
    by_cases hz : n = 0
    · have hl0 : l.length = 0 := by have := HN.out; omega
      have HT : Hid (Fx.tbl l = [0]) := by show _ = _; unfold Fx.tbl; rw [if_pos hl0]
      subst hz
      go_wp2_with (at_builtin; refine wpList_app1 rfl (.tmp 34) (.tmp 35) 22 rfl w.heap.size 3 i0 (.int .i64 0) 8 Try.underlying22 hi0 hz0 hz1 hz2 rfl _ _ _ (.int .i64 0) rfl rfl rfl hown hsz (by simp only [maxLen]; omega) (by omega) ?_; intro v' w3 hown' hbel' _)
      obtain ⟨gq', cq', rfl⟩ : ∃ g c, v' = .slice g 1 c := by
        rcases hown'.2 with ⟨_, h0⟩ | ⟨g, cap, cur, hq, _⟩
        · omega
        · exact ⟨_, cap, hq⟩
      go_wp2_with fail
      go_quiet (fail)
      go_wp2_with fail
      go_ret2
      refine ⟨_, by rw [HT.out, show fr % ((([0] : List Int).length : Nat) : Int) = 0 by simp only [List.length_cons, List.length_nil]; omega]; rfl, ?_, below_drewN (hbel.trans hbel') _⟩
      rw [HT.out]
      exact Row.own (xs := [0]) (n := 1) hown'
    · have hl0 : ¬ l.length = 0 := by have := HN.out; omega
      have hnz : ((n : Int) == 0) = false := by simp; omega
      have HT : Hid (Fx.tbl l = (l.take n).map fun x => x % (n : Int)) := by
        show _ = _
        unfold Fx.tbl
        rw [if_neg hl0, ← HN.out]
        congr 1
        have := HN.out
        by_cases h40 : l.length ≤ 40
        · rw [List.take_of_length_le h40, List.take_of_length_le (by omega)]
        · rw [show n = 40 by omega]
      have HO := Lib.hid hown
      clear hown
      go_wp2_with fail
      go_quiet (fail)
      go_wp2_with fail
      go_ret2
      refine ⟨_, by rw [HT.out, hll]; rfl, ?_, below_drewN hbel _⟩
      rw [HT.out]
      exact Row.own (n := n) HO.out
end Go.Proofs.Ytgckcffgkgfakaa
