/- The walk of stetlaw04.DiskSwap. -/
import Derived.Test.YtienbgfmhllgmaaRows
import Derived.Test.YtienbgfmhllgmaaKit
import Derived.Test.YtienbgfmhllgmaaRowC
import Derived.Test.YtienbgfmhllgmaaDk6
import Derived.Test.YtienbgfmhllgmaaDk7
import Derived.Test.YtienbgfmhllgmaaDk8
import Derived.Test.YtienbgfmhllgmaaDkKeeps
import Derived.Test.YtienbgfmhllgmaaDkOne
import Derived.Test.YtienbgfmhllgmaaDkApp
import Derived.RangeFuncBox
namespace Go.Proofs.Ytienbgfmhllgmaa
open Go.Maps Go.RowKit

namespace Dk
/-- What is written in the other order: the last k of n, the last first; and which of them are kept. -/
def rl (z : List ByteArray) (n k : Nat) : List Wr := (List.range k).map fun (j : Nat) => (((n - 1 - j : Nat) : Int), cut (z[n - 1 - j]?.getD ⟨#[]⟩))
def tl (ks : List Bool) (n k : Nat) : List Bool := (List.range k).map fun (j : Nat) => ks[n - 1 - j]?.getD false
theorem rl_succ (z : List ByteArray) (n k : Nat) : rl z n (k + 1) = rl z n k ++ [(((n - 1 - k : Nat) : Int), cut (z[n - 1 - k]?.getD ⟨#[]⟩))] := by simp [rl, List.range_succ]
theorem tl_succ (ks : List Bool) (n k : Nat) : tl ks n (k + 1) = tl ks n k ++ [ks[n - 1 - k]?.getD false] := by simp [tl, List.range_succ]
theorem rl_length (z : List ByteArray) (n k : Nat) : (rl z n k).length = k := by simp [rl]
theorem tl_length (ks : List Bool) (n k : Nat) : (tl ks n k).length = k := by simp [tl]
theorem puts_rl (z : List ByteArray) (ks : List Bool) (n k i : Nat) (hk : k ≤ n) : puts (fun _ => none) (kept (rl z n k) (tl ks n k)) i = if n - k ≤ i ∧ i < n ∧ ks[i]?.getD false = true then some ((i : Int), cut (z[i]?.getD ⟨#[]⟩)) else none := by
  induction k with
  | zero => rw [if_neg (by omega)]; rfl
  | succ k ih =>
    rw [rl_succ, tl_succ, kept_snoc _ _ _ _ (by rw [rl_length, tl_length])]
    have ih := ih (by omega)
    by_cases hb : ks[n - 1 - k]?.getD false = true
    · rw [if_pos hb, puts_last, ih]
      by_cases hi : i = n - 1 - k
      · subst hi
        rw [if_pos rfl, if_pos ⟨by omega, by omega, hb⟩]
      · rw [if_neg (by simp; omega)]
        by_cases h2 : n - k ≤ i ∧ i < n ∧ ks[i]?.getD false = true
        · rw [if_pos h2, if_pos ⟨by omega, h2.2⟩]
        · rw [if_neg h2, if_neg (fun h3 => h2 ⟨by omega, h3.2⟩)]
    · rw [if_neg hb, List.append_nil, ih]
      by_cases h2 : n - k ≤ i ∧ i < n ∧ ks[i]?.getD false = true
      · rw [if_pos h2, if_pos ⟨by omega, h2.2⟩]
      · rw [if_neg h2, if_neg (fun h3 => h2 ⟨by
          rcases Nat.lt_or_ge i (n - k) with h4 | h4
          · have : i = n - 1 - k := by omega
            subst this
            exact absurd h3.2.2 hb
          · exact h4, h3.2⟩)]
theorem puts_wl_kept (z : List ByteArray) (ks : List Bool) (k i : Nat) : puts (fun _ => none) (kept (wl z k) ks) i = if i < k ∧ ks[i]?.getD false = true then some ((i : Int), cut (z[i]?.getD ⟨#[]⟩)) else none := by
  induction k with
  | zero => rw [if_neg (by omega)]; rfl
  | succ k ih =>
    rw [show wl z (k + 1) = wl z k ++ [((k : Int), cut (z[k]?.getD ⟨#[]⟩))] by simp [wl, List.range_succ], kept_append, wl_length]
    by_cases hb : ks[k]?.getD false = true
    · rw [if_pos hb, puts_last, ih]
      by_cases hi : i = k
      · subst hi
        rw [if_pos rfl, if_pos ⟨by omega, hb⟩]
      · rw [if_neg (by simp; omega)]
        by_cases h2 : i < k ∧ ks[i]?.getD false = true
        · rw [if_pos h2, if_pos ⟨by omega, h2.2⟩]
        · rw [if_neg h2, if_neg (fun h3 => h2 ⟨by omega, h3.2⟩)]
    · rw [if_neg hb, List.append_nil, ih]
      by_cases h2 : i < k ∧ ks[i]?.getD false = true
      · rw [if_pos h2, if_pos ⟨by omega, h2.2⟩]
      · rw [if_neg h2, if_neg (fun h3 => h2 ⟨by
          rcases Nat.lt_or_ge i k with h4 | h4
          · exact h4
          · have : i = k := by omega
            subst this
            exact absurd h3.2 hb, h3.2⟩)]
/-- Both orders hold the same. -/
theorem swap_same (z : List ByteArray) (ks : List Bool) (n i : Nat) : vl (puts (fun _ => none) (kept (wl z n) ks)) i = vl (puts (fun _ => none) (kept (rl z n n) (tl ks n n))) i := by
  unfold vl
  rw [puts_wl_kept, puts_rl z ks n n i (Nat.le_refl _)]
  simp
end Dk

theorem cut_run (t : ByteArray) (w : World) : (Instr.sliceAt 9 (.string t) none (some (.int .i64 (if 64 < (t.size : Int) then (64 : Int) else (t.size : Int)))) none).run Try.prog w = .ok (.string (Dk.cut t)) w := by
  obtain ⟨m, hm⟩ : ∃ m, m = min t.size 64 := ⟨_, rfl⟩
  have hif1 : (if 64 < (t.size : Int) then (64 : Int) else (t.size : Int)) = (m : Int) := by split <;> omega
  rw [hif1, run_sliceAt_string (h := Try.underlying9), run_slice_string_h]
  · simp [Dk.cut, hm]
  · exact Try.underlying9
  · omega
  · omega

set_option maxRecDepth 100000 in
set_option maxHeartbeats 4000000 in
theorem swap_any (v0 v1 : Value) (z0 : List ByteArray) (ks : List Bool) (w : World) (h0 : Row Value.string w w.heap.size v0 z0) (h1 : Row Value.bool w w.heap.size v1 ks) (ok0 : ∀ x ∈ z0, x.size ≤ maxLen) :
    Calls Try.prog 6 #[v0, v1] w fun e w' => e = .returned (.bool true) ∧ Below w.heap.size w w' := by
  have HR1 := Lib.hid h1
  obtain ⟨A0, c0, rfl, l0, m0, hA0⟩ := h0.shape
  obtain ⟨A1, c1, rfl, l1, m1, hA1⟩ := h1.shape
  obtain ⟨i0, hi0, hz0, hz1, hz2⟩ := info_parts boolInfo
  have HA0 := Lib.hid hA0
  have HA1 := Lib.hid hA1
  have HO0 := Lib.hid ok0
  clear hA0 hA1 ok0 h0 h1
  obtain ⟨n, hn⟩ : ∃ n, n = min z0.length 16 := ⟨_, rfl⟩
  have hif : (if 16 < (z0.length : Int) then (16 : Int) else (z0.length : Int)) = (n : Int) := by split <;> omega
  have hn0 : n ≤ z0.length := by omega
  have hn16 : n ≤ 16 := by omega
  clear hn
  go_enter Try.func6, Try.ntmps6
  go_upto_block 0 with fail
  refine (new_in (B := w.heap.size) 16 (by decide) (Nat.le_refl _) (Below.refl _ _)).mono ?_
  rintro e w1 ⟨a, rfl, hin⟩
  go_upto_block 0 with fail
  refine (new_in2 16 (by decide) hin).mono ?_
  rintro e w2 ⟨b, rfl, hin2⟩
  have hin3 := (Dk.In2R.of_in2 hin2).add (.cells #[] 4)
  have ho3 := World.ownsRow_made w2 #[] 0 hin2.1 (by decide) (e := 4) (size := 1) rfl
  clear hin hin2
  go_upto_block 0 with fail
  go_cut [5, 7, 10] (fun p q v wx => p = .pointer (some ⟨a, 0, none⟩) ∧ q = .pointer (some ⟨b, 0, none⟩) ∧ Dk.In2R w.heap.size w wx a ⟨none, 16, fun _ => none, 0, Dk.wl z0 n⟩ b ⟨none, 16, fun _ => none, 0, Dk.rl z0 n n⟩ v.ownBlock.toList ∧ wx.ownsRow w.heap.size 4 1 v n ((Dk.tl ks n n).map Value.bool))
  case first =>
    go_wp2
    go_loopw [10, 11] (fun v i wr => ∃ k : Nat, k ≤ n ∧ i = .int .i64 k ∧ Dk.In2R w.heap.size w wr a ⟨none, 16, fun _ => none, 0, Dk.wl z0 k⟩ b ⟨none, 16, fun _ => none, 0, Dk.rl z0 n k⟩ v.ownBlock.toList ∧ wr.ownsRow w.heap.size 4 1 v k ((Dk.tl ks n k).map Value.bool)) (fun _ i _ => 16 - (intOf i).toNat)
    case atStart => exact ⟨0, Nat.zero_le _, rfl, hin3, ho3⟩
    case round =>
      obtain ⟨k, hk, rfl, hin4, ho4⟩ := hrel
      by_cases hlt : k < n
      · have hltn : (k : Int) < (n : Int) := by omega
        have hlt0 : k < z0.length := by omega
        have hj0 : n - 1 - k < z0.length := by omega
        obtain ⟨b1, off, rfl, hb, hc⟩ := HA0.out (by rintro rfl; simp at hlt0)
        have hcl0 := hc k hlt0
        have hcl1 := hc (n - 1 - k) hj0
        have HW := Lib.hid (Dk.wl_succ z0 k hlt0)
        have HRL : Hid (Dk.rl z0 n (k + 1) = Dk.rl z0 n k ++ [(((n - 1 - k : Nat) : Int), Dk.cut z0[n - 1 - k])]) := by
          show _ = _
          rw [Dk.rl_succ, List.getElem?_eq_getElem hj0, Option.getD_some]
        have HTL := Lib.hid (Dk.tl_succ ks n k)
        have hjj : ((n : Int) - 1 - (k : Int)) = ((n - 1 - k : Nat) : Int) := by omega
        have hx1 : (k : Int) < (z0.length : Int) := by omega
        have hsz := HO0.out _ (List.getElem_mem hlt0)
        have hsz2 := HO0.out _ (List.getElem_mem hj0)
        have hjn : n - 1 - k < 16 := by omega
        clear hc
        generalize z0[k] = t at *
        generalize z0[n - 1 - k] = t2 at *
        generalize hj : n - 1 - k = j at *
        have hx2 : (j : Int) < (z0.length : Int) := by omega
        have hcell4 := (hin4.2.1.cell (p := ⟨b1, off + k, none⟩) hb).trans hcl0
        have hsl1 := cut_run t
        have hsl2 := cut_run t2
        have hcell5 := (hin4.2.1.cell (p := ⟨b1, off + j, none⟩) hb).trans hcl1
        have hin4' : Dk.In2R w.heap.size w wr.drew a ⟨none, 16, fun _ => none, 0, Dk.wl z0 k⟩ b ⟨none, 16, fun _ => none, 0, Dk.rl z0 n k⟩ u10.ownBlock.toList := (hin4.below (below_of_drewN 1)).1
        have hpl : (Dk.wl z0 k).length < 1000000 := by rw [Dk.wl_length]; omega
        have hpl2 : (Dk.rl z0 n k).length < 1000000 := by rw [Dk.rl_length]; omega
        go_wp2
        go_region_held3 (fun wx => wx.cell? ⟨b1, off + k, none⟩ = some (.string t) ∧ wx.cell? ⟨b1, off + j, none⟩ = some (.string t2)) (go_keep) (first
          | (have hin6x := hin6; go_at_call 9; clear hin6x; refine (write_ok_in2R' (j : Int) (Dk.cut t2) hin6 hpl2 rfl (Dk.cut_size t2) (by omega) (show (j : Int) < 16 by omega) (by simp)).mono ?_; rintro e w7 ⟨rfl, hin7, hsm7⟩; have hc7 := (hin7.2.1.cell (p := ⟨b1, off + k, none⟩) hb).trans hcl0; have hc7' := (hin7.2.1.cell (p := ⟨b1, off + j, none⟩) hb).trans hcl1; dsimp only)
          | (go_at_call 9; refine (write_ok_in2R (k : Int) (Dk.cut t) hin4' hpl rfl (Dk.cut_size t) (by omega) (show (k : Int) < 16 by omega) (by simp)).mono ?_; rintro e w6 ⟨rfl, hin6, hsm6⟩; have hc6 := (hin6.2.1.cell (p := ⟨b1, off + k, none⟩) hb).trans hcl0; have hc6' := (hin6.2.1.cell (p := ⟨b1, off + j, none⟩) hb).trans hcl1; dsimp only))
        replace hin7 : Dk.In2R w.heap.size w w7 a ⟨none, 16, fun _ => none, 0, Dk.wl z0 (k + 1)⟩ b ⟨none, 16, fun _ => none, 0, Dk.rl z0 n (k + 1)⟩ u10.ownBlock.toList := by rw [HW.out, HRL.out]; exact hin7
        have ho7 := own_same ho4 (fun q hq => (hsm7 q hq).trans (hsm6 q hq))
        clear hin6 hin4' hin4 hcell4 hcell5 hc6 hc6' hc7 hc7' hsl1 hsl2 hsm6 hsm7 ho4 hpl hpl2
        by_cases hki : j < ks.length
        · obtain ⟨bk, ok, rfl, hbk, hck⟩ := HA1.out (by rintro rfl; simp at hki)
          have hki' : (j : Int) < (ks.length : Int) := by omega
          have hckk := (hin7.2.1.cell (p := ⟨bk, ok + j, none⟩) hbk).trans (hck j hki)
          have HB : Hid (ks[j]?.getD false = ks[j]) := by show _ = _; simp [hki]
          clear hck
          generalize ks[j] = kb at *
          go_wp2_with (at_builtin; refine wpList_app1b rfl (.tmp 85) (.tmp 96) 39 rfl w.heap.size 4 i0 _ 1 Try.underlying39 hi0 hz0 hz1 hz2 rfl _ k ((Dk.tl ks n k).map Value.bool) (.bool kb) rfl rfl _ rfl rfl ho7 hin7.1 (by simp only [maxLen]; omega) (by omega) ?_; intro v' w8 ho8 hg8 hb8; have hin8 := hin7.grown hg8 ho8 hb8)
          go_roundw
          case rel => exact ⟨k + 1, by omega, by go_num, hin8, by rw [HTL.out, HB.out]; simpa using ho8⟩
          case measure => simp [intOf]; omega
        · have hki' : ¬ (j : Int) < (ks.length : Int) := by omega
          have HB : Hid (ks[j]?.getD false = false) := by show _ = _; simp [List.getElem?_eq_none (Nat.le_of_not_lt hki)]
          go_wp2_with (at_builtin; refine wpList_app1b rfl (.tmp 85) (.tmp 96) 39 rfl w.heap.size 4 i0 _ 1 Try.underlying39 hi0 hz0 hz1 hz2 rfl _ k ((Dk.tl ks n k).map Value.bool) (.bool false) rfl rfl _ rfl rfl ho7 hin7.1 (by simp only [maxLen]; omega) (by omega) ?_; intro v' w8 ho8 hg8 hb8; have hin8 := hin7.grown hg8 ho8 hb8)
          go_roundw
          case rel => exact ⟨k + 1, by omega, by go_num, hin8, by rw [HTL.out, HB.out]; simpa using ho8⟩
          case measure => simp [intOf]; omega
      · obtain rfl : k = n := by omega
        go_wp2
        go_meet
        exact ⟨rfl, rfl, hin4, ho4⟩
  case rest =>
    obtain ⟨rfl, rfl, hin4, ho4⟩ := hcut
    have hsame := Lib.hid (Dk.swap_same z0 ks n)
    have hl1 : (Dk.wl z0 n).length ≤ 16 := by rw [Dk.wl_length]; omega
    have hl2 : (Dk.rl z0 n n).length ≤ 16 := by rw [Dk.rl_length]; omega
    clear ho3 hin3
    go_wp2_with fail
    refine (crash_in2R _ ks hin4 (by simp; omega) (HR1.out.below hin4.2.1 (Nat.le_refl _))).mono ?_
    rintro e w5 ⟨rfl, hin5, hsm5⟩
    replace hin5 : Dk.In2R w.heap.size w w5 a ⟨none, 16, Dk.puts (fun _ => none) (Dk.kept (Dk.wl z0 n) ks), 0 + (Dk.wl z0 n).length, []⟩ b ⟨none, 16, fun _ => none, 0, Dk.rl z0 n n⟩ u10.ownBlock.toList := hin5
    have ho5 := own_same ho4 hsm5
    go_wp2_with fail
    refine (crash_own2R _ (Dk.tl ks n n) n hin5.swap (by simp; omega) ho5 (fun k hk => by simp [hk])).mono ?_
    rintro e w6 ⟨rfl, hin6, _⟩
    replace hin6 : Dk.In2R w.heap.size w w6 b ⟨none, 16, Dk.puts (fun _ => none) (Dk.kept (Dk.rl z0 n n) (Dk.tl ks n n)), 0 + (Dk.rl z0 n n).length, []⟩ a _ u10.ownBlock.toList := hin6
    generalize Dk.puts (fun _ => none) (Dk.kept (Dk.rl z0 n n) (Dk.tl ks n n)) = H at *
    generalize Dk.puts (fun _ => none) (Dk.kept (Dk.wl z0 n) ks) = H2 at *
    generalize 0 + (Dk.rl z0 n n).length = C at *
    generalize 0 + (Dk.wl z0 n).length = C2 at *
    clear hl1 hl2 hin4 hin5 ho4 ho5 hsm5
    go_wp2_with fail
    go_loopw [13] (fun i wr => ∃ k : Nat, k ≤ 16 ∧ i = .int .i64 k ∧ Dk.In2R w.heap.size w wr b ⟨none, 16, H, C, []⟩ a ⟨none, 16, H2, C2, []⟩ u10.ownBlock.toList) (fun i _ => 16 - (intOf i).toNat)
    case atStart => exact ⟨0, Nat.zero_le _, rfl, hin6⟩
    case round =>
      obtain ⟨k, hk, rfl, hin7⟩ := hrel
      by_cases hlt : k < 16
      · have hx : (k : Int) < 16 := by omega
        have hrd : Hid (Dk.read ⟨none, 16, H, C, []⟩ k = (Dk.vl H k, 0)) := by
          show _ = _
          rw [Dk.read_in _ _ (by omega) hx, Dk.at_vl]
          rfl
        have hrd2 : Hid (Dk.read ⟨none, 16, H2, C2, []⟩ k = (Dk.vl H k, 0)) := by
          show _ = _
          rw [Dk.read_in _ _ (by omega) hx, Dk.at_vl, ← hsame.out k]
          rfl
        generalize Dk.vl H (k : Int) = t at hrd hrd2
        go_wp2_with fail
        refine (read_in _ (k : Int) hin7.swap.fst.to_in (by simp) (WalkArith.wf_i64 (by omega)) hrd2.out).mono ?_
        rintro e w8 ⟨rfl, hb8⟩
        obtain ⟨hin8, _⟩ := hin7.below hb8
        go_wp2_with fail
        refine (read_in _ (k : Int) hin8.fst.to_in (by simp) (WalkArith.wf_i64 (by omega)) hrd.out).mono ?_
        rintro e w9 ⟨rfl, hb9⟩
        obtain ⟨hin9, _⟩ := hin8.below hb9
        go_wp2_with fail
        go_roundw
        case rel => exact ⟨k + 1, by omega, by go_num, hin9⟩
        case measure => simp [intOf]; omega
      · obtain rfl : k = 16 := by omega
        go_wp2_with fail
        refine (dfixed_any _).mono ?_
        rintro e w9 ⟨rfl, hb9⟩
        go_wp2_with fail
        go_ret
        exact ⟨rfl, (hin7.below hb9).1.2.1⟩
end Go.Proofs.Ytienbgfmhllgmaa
