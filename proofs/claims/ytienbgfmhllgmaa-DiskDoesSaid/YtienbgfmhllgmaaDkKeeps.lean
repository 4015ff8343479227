/- The walk of stetlaw04.DiskKeeps. -/
import Derived.Test.YtienbgfmhllgmaaRows
import Derived.Test.YtienbgfmhllgmaaKit
import Derived.Test.YtienbgfmhllgmaaRowC
import Derived.Test.YtienbgfmhllgmaaDk6
import Derived.Test.YtienbgfmhllgmaaDk7
namespace Go.Proofs.Ytienbgfmhllgmaa
open Go.Maps Go.RowKit

namespace Dk
def cut (s : ByteArray) : ByteArray := s.extract 0 (min s.size 64)
theorem cut_size (s : ByteArray) : (cut s).size ≤ 64 := by simp [cut]; omega
def wl (z : List ByteArray) (k : Nat) : List Wr := (List.range k).map fun (j : Nat) => ((j : Int), cut (z[j]?.getD ⟨#[]⟩))
theorem wl_succ (z : List ByteArray) (k : Nat) (h : k < z.length) : wl z (k + 1) = wl z k ++ [((k : Int), cut z[k])] := by simp [wl, List.range_succ, h]
theorem wl_length (z : List ByteArray) (k : Nat) : (wl z k).length = k := by simp [wl]
theorem write_ok (s : St) (i : Int) (t : ByteArray) (h0 : 0 ≤ i) (h1 : i < s.n) (ht : t.size ≤ 64) (hl : s.lim = none) : write s i t = (0, { s with pend := s.pend ++ [(i, t)] }) := by
  obtain ⟨lim, n, held, cnt, pend⟩ := s
  subst hl
  simp only [write, has, h0, h1, dead, used]
  simp [show ¬ 64 < t.size by omega]
theorem puts_wl (z : List ByteArray) (k i : Nat) : puts (fun _ => none) (wl z k) i = if i < k then some ((i : Int), cut (z[i]?.getD ⟨#[]⟩)) else none := by
  induction k with
  | zero => simp [wl, puts]
  | succ k ih =>
    rw [show wl z (k + 1) = wl z k ++ [((k : Int), cut (z[k]?.getD ⟨#[]⟩))] by simp [wl, List.range_succ], puts_last, ih]
    by_cases h : i = k
    · subst h; simp
    · by_cases h2 : i < k
      · rw [if_neg (by simpa using (fun e : (i : Int) = k => h (by omega))), if_pos h2, if_pos (by omega)]
      · rw [if_neg (by simpa using (fun e : (i : Int) = k => h (by omega))), if_neg h2, if_neg (by omega)]
end Dk

theorem Dk.write_dead (s : Dk.St) (i : Int) (t : ByteArray) (q : Int) (h0 : 0 ≤ i) (h1 : i < s.n) (ht : t.size ≤ 64) (hl : s.lim = some q) (hq : q < 1) : Dk.write s i t = (8, s) := by
  obtain ⟨lim, n, held, cnt, pend⟩ := s
  subst hl
  simp only [Dk.write, Dk.has, h0, h1, Dk.dead, Dk.used, hq]
  simp [show ¬ 64 < t.size by omega]
theorem Dk.write_live (s : Dk.St) (i : Int) (t : ByteArray) (q : Int) (h0 : 0 ≤ i) (h1 : i < s.n) (ht : t.size ≤ 64) (hl : s.lim = some q) (hq : ¬ q < 1) : Dk.write s i t = (0, { s with lim := some (q - 1), pend := s.pend ++ [(i, t)] }) := by
  obtain ⟨lim, n, held, cnt, pend⟩ := s
  subst hl
  simp only [Dk.write, Dk.has, h0, h1, Dk.dead, Dk.used, hq]
  simp [show ¬ 64 < t.size by omega]
theorem Dk.kept_nil (l : List Dk.Wr) : Dk.kept l [] = [] := by cases l <;> rfl
theorem Dk.read_in (s : Dk.St) (i : Int) (h0 : 0 ≤ i) (h1 : i < s.n) : Dk.read s i = (Dk.at_ s i, 0) := by simp [Dk.read, Dk.has, h0, h1]
theorem write_dead_in {B : Nat} {w0 w : World} {a : Nat} {s : Dk.St} (i : Int) (u : ByteArray) (q : Int) (h : Dk.In B w0 w a s) (hp : s.pend.length < 1000000) (hl : s.lim = some q) (hq : q < 1) (ht : u.size ≤ 64) (hi0 : 0 ≤ i) (hi1 : i < s.n) (hn : s.n ≤ 4096) :
    Calls Try.prog 9 #[.pointer (some ⟨a, 0, none⟩), .int .i64 i, .string u] w fun e w' => e = .returned (.int .i64 8) ∧ Dk.In B w0 w' a s := by
  have := write_in 8 i u h hp (by omega) (WalkArith.wf_i64 (by omega)) (by rw [Dk.write_dead s i u q hi0 hi1 ht hl hq])
  rwa [Dk.write_dead s i u q hi0 hi1 ht hl hq] at this
theorem write_live_in {B : Nat} {w0 w : World} {a : Nat} {s : Dk.St} (i : Int) (u : ByteArray) (q : Int) (h : Dk.In B w0 w a s) (hp : s.pend.length < 1000000) (hl : s.lim = some q) (hq : ¬ q < 1) (ht : u.size ≤ 64) (hi0 : 0 ≤ i) (hi1 : i < s.n) (hn : s.n ≤ 4096) :
    Calls Try.prog 9 #[.pointer (some ⟨a, 0, none⟩), .int .i64 i, .string u] w fun e w' => e = .returned (.int .i64 0) ∧ Dk.In B w0 w' a { s with lim := some (q - 1), pend := s.pend ++ [(i, u)] } := by
  have := write_in 0 i u h hp (by omega) (WalkArith.wf_i64 (by omega)) (by rw [Dk.write_live s i u q hi0 hi1 ht hl hq])
  rwa [Dk.write_live s i u q hi0 hi1 ht hl hq] at this
theorem Dk.In.drewN {B : Nat} {w0 w : World} {bd : Nat} {s : Dk.St} (h : Dk.In B w0 w bd s) (n : Nat) : Dk.In B w0 (w.drewN n) bd s := h.below (below_of_drewN n)
theorem Dk.In2.drewN {B : Nat} {w0 w : World} {a b : Nat} {s t : Dk.St} (h : Dk.In2 B w0 w a s b t) (n : Nat) : Dk.In2 B w0 (w.drewN n) a s b t := h.below (below_of_drewN n)
theorem write_ok_in {B : Nat} {w0 w : World} {a : Nat} {s : Dk.St} (i : Int) (u : ByteArray) (h : Dk.In B w0 w a s) (hp : s.pend.length < 1000000) (hl : s.lim = none) (ht : u.size ≤ 64) (hi0 : 0 ≤ i) (hi1 : i < s.n) (hn : s.n ≤ 4096) :
    Calls Try.prog 9 #[.pointer (some ⟨a, 0, none⟩), .int .i64 i, .string u] w fun e w' => e = .returned (.int .i64 0) ∧ Dk.In B w0 w' a { s with pend := s.pend ++ [(i, u)] } := by
  have := write_in 0 i u h hp (by omega) (WalkArith.wf_i64 (by omega)) (by rw [Dk.write_ok s i u hi0 hi1 ht hl])
  rwa [Dk.write_ok s i u hi0 hi1 ht hl] at this
theorem write_ok_in2 {B : Nat} {w0 w : World} {a b : Nat} {s t : Dk.St} (i : Int) (u : ByteArray) (h : Dk.In2 B w0 w a s b t) (hp : s.pend.length < 1000000) (hl : s.lim = none) (ht : u.size ≤ 64) (hi0 : 0 ≤ i) (hi1 : i < s.n) (hn : s.n ≤ 4096) :
    Calls Try.prog 9 #[.pointer (some ⟨a, 0, none⟩), .int .i64 i, .string u] w fun e w' => e = .returned (.int .i64 0) ∧ Dk.In2 B w0 w' a { s with pend := s.pend ++ [(i, u)] } b t := by
  have := write_in2 0 i u h hp (by omega) (WalkArith.wf_i64 (by omega)) (by rw [Dk.write_ok s i u hi0 hi1 ht hl])
  rwa [Dk.write_ok s i u hi0 hi1 ht hl] at this

set_option maxRecDepth 100000 in
set_option maxHeartbeats 4000000 in
theorem keeps_any (v0 v1 : Value) (z0 : List ByteArray) (z1 : List (Int × Int)) (L : Int) (w : World) (h0 : Row Value.string w w.heap.size v0 z0) (h1 : RowC 2 (fun x : Int × Int => [Value.int .u8 x.1, Value.int .u8 x.2]) w w.heap.size v1 z1)
    (ok0 : ∀ x ∈ z0, x.size ≤ maxLen) (ok1 : ∀ x ∈ z1, (Lit.int .u8 x.1).wf = true ∧ (Lit.int .u8 x.2).wf = true) (hL : (Lit.int .i64 L).wf = true) :
    Calls Try.prog 3 #[v0, v1, .int .i64 L] w fun e w' => e = .returned (.bool true) ∧ Below w.heap.size w w' := by
  obtain ⟨A0, c0, rfl, l0, m0, hA0⟩ := h0.shape
  obtain ⟨A1, c1, rfl, l1, m1, hA1⟩ := h1.shape
  have HA0 := Lib.hid hA0
  have HA1 := Lib.hid hA1
  have HO0 := Lib.hid ok0
  have HO1 := Lib.hid ok1
  clear hA0 hA1 ok0 ok1 h0 h1
  go_enter Try.func3, Try.ntmps3
  go_upto_block 0 with (go_at_call 8; refine (new_in (B := w.heap.size) 8 (by decide) (Nat.le_refl _) (Below.refl _ _)).mono ?_; rintro e w1 ⟨a, rfl, hin⟩)
  go_cut [7] (fun p wx => p = .pointer (some ⟨a, 0, none⟩) ∧ Dk.In w.heap.size w wx a ⟨none, 8, fun _ => none, 0, Dk.wl z0 (min z0.length 8)⟩)
  case first =>
    go_wp2
    go_loopw [9] (fun i wr => ∃ k : Nat, k ≤ z0.length ∧ k ≤ 8 ∧ i = .int .i64 k ∧ Dk.In w.heap.size w wr a ⟨none, 8, fun _ => none, 0, Dk.wl z0 k⟩) (fun i _ => 8 - (intOf i).toNat)
    case atStart => exact ⟨0, Nat.zero_le _, Nat.zero_le _, rfl, hin⟩
    case round =>
      obtain ⟨k, hk0, hk8, rfl, hin⟩ := hrel
      by_cases hlt : k < z0.length ∧ k < 8
      · obtain ⟨hlt0, hlt8⟩ := hlt
        obtain ⟨b, off, rfl, hb, hc⟩ := HA0.out (by rintro rfl; simp at hlt0)
        have hcell := (hin.2.1.cell (p := ⟨b, off + k, none⟩) hb).trans (hc k hlt0)
        have hx1 : (k : Int) < (z0.length : Int) := by omega
        have hx2 : (k : Int) < 8 := by omega
        have hsz := HO0.out _ (List.getElem_mem hlt0)
        have hs := Lib.hid (Dk.wl_succ z0 k hlt0)
        clear hc
        generalize z0[k] = t at *
        obtain ⟨m, hm⟩ : ∃ m, m = min t.size 64 := ⟨_, rfl⟩
        have hif : (if 64 < (t.size : Int) then (64 : Int) else (t.size : Int)) = (m : Int) := by split <;> omega
        have hm1 : (0 : Int) ≤ (m : Int) := by omega
        have hm2 : (m : Int) ≤ (t.size : Int) := by omega
        go_wp2
        refine wp_region_quiet_tail 13 (by kernel_rfl) (by kernel_rfl) ?_
        simp only [List.take_succ_cons, List.take_zero, List.drop_succ_cons, List.drop_zero]
        repeat (go_big_quiet_step (fail))
        refine wpQuiet_nil ?_
        have hin' := hin.drewN 1
        have hpl : (Dk.wl z0 k).length < 1000000 := by rw [Dk.wl_length]; omega
        go_wp2_with fail
        refine (write_ok_in (k : Int) (Dk.cut t) hin' hpl rfl (Dk.cut_size t) (by omega) hx2 (by simp)).mono ?_
        rintro e w2 ⟨rfl, hin2⟩
        go_wp2_with fail
        go_roundw
        case rel => exact ⟨k + 1, by omega, by omega, by go_num, by rw [hs.out]; exact hin2⟩
        case measure => simp [intOf]; omega
      · have HK : min z0.length 8 = k := by omega
        have HI : Hid (Dk.In w.heap.size w wr a ⟨none, 8, fun _ => none, 0, Dk.wl z0 (min z0.length 8)⟩) := by rw [HK]; exact hin
        by_cases hz : k < z0.length
        all_goals
          go_wp2
          go_meet
          exact ⟨rfl, HI.out⟩
  case rest =>
    obtain ⟨rfl, hin2⟩ := hcut
    have hw := Dk.puts_wl z0 (min z0.length 8)
    have hml : (Dk.wl z0 (min z0.length 8)).length ≤ 8 := by rw [Dk.wl_length]; omega
    generalize hm : min z0.length 8 = m at *
    generalize Dk.wl z0 m = P at *
    have hmle : m ≤ 8 := by omega
    go_upto_block 2 with fail
    refine (sync_in 0 hin2 (by simp; omega) rfl).mono ?_
    rintro e w3 ⟨rfl, hin3⟩
    replace hin3 : Dk.In w.heap.size w w3 a ⟨none, 8, Dk.puts (fun _ => none) P, 0 + P.length, []⟩ := hin3
    generalize Dk.puts (fun _ => none) P = H at *
    generalize hC : 0 + P.length = C at *
    have hC8 : C ≤ 8 := by omega
    clear hC hml hin2 P hin
    go_upto_block 2 with (first
      | (go_at_call 11; refine (pending_in hin3).mono ?_; rintro e w' ⟨rfl, rfl⟩)
      | (go_at_call 12; refine (limit_in L hL hin3).mono ?_; rintro e w4 ⟨rfl, hin4⟩))
    go_cut [7] (fun p wx => p = .pointer (some ⟨a, 0, none⟩) ∧ ∃ q pend, pend.length ≤ 20 ∧ Dk.In w.heap.size w wx a ⟨some q, 8, H, C, pend⟩)
    case first =>
      go_wp2
      go_loopw [10] (fun i wr => ∃ (k : Nat) (q : Int) (pend : List Dk.Wr), k ≤ z1.length ∧ k ≤ 20 ∧ i = .int .i64 k ∧ pend.length ≤ k ∧ Dk.In w.heap.size w wr a ⟨some q, 8, H, C, pend⟩ ∧ ((k : Int) ≤ L → q = L - k) ∧ (L ≤ k → q < 1)) (fun i _ => 20 - (intOf i).toNat)
      case atStart => exact ⟨0, L, [], Nat.zero_le _, Nat.zero_le _, rfl, Nat.le_refl _, hin4, by simp, by simp; omega⟩
      case round =>
        obtain ⟨k, q, pend, hk1, hk20, rfl, hpl, hin5, hq1, hq2⟩ := hrel
        by_cases hlt : k < z1.length ∧ k < 20
        · obtain ⟨hlt1, hlt20⟩ := hlt
          obtain ⟨b, off, rfl, hb, hc⟩ := HA1.out (by rintro rfl; simp at hlt1)
          have hcell := (hin5.2.1.cell (p := ⟨b, off + k * 2, none⟩) hb).trans (hc k hlt1 0 _ rfl)
          have hx1 : (k : Int) < (z1.length : Int) := by omega
          have hx2 : (k : Int) < 20 := by omega
          have hu8 := bounds_u8 (HO1.out _ (List.getElem_mem hlt1)).1
          clear hc
          generalize z1[k].1 = t at *
          by_cases hkL : (k : Int) < L
          · go_wp2_with fail
            refine (write_live_in (t % 8) ⟨#[97, 102, 116, 101, 114]⟩ q hin5 (by simp; omega) rfl (by omega) (by decide) (by omega) (by simp; omega) (by simp)).mono ?_
            rintro e w6 ⟨rfl, hin6⟩
            go_wp2_with fail
            go_roundw
            case rel => exact ⟨k + 1, q - 1, pend ++ [(t % 8, ⟨#[97, 102, 116, 101, 114]⟩)], by omega, by omega, by go_num, by simp; omega, hin6, by omega, by omega⟩
            case measure => simp [intOf]; omega
          · go_wp2_with fail
            refine (write_dead_in (t % 8) ⟨#[97, 102, 116, 101, 114]⟩ q hin5 (by simp; omega) rfl (by omega) (by decide) (by omega) (by simp; omega) (by simp)).mono ?_
            rintro e w6 ⟨rfl, hin6⟩
            go_wp2_with fail
            go_roundw
            case rel => exact ⟨k + 1, q, pend, by omega, by omega, by go_num, by omega, hin6, by omega, by omega⟩
            case measure => simp [intOf]; omega
        · by_cases hz : k < z1.length
          all_goals
            go_wp2
            go_meet
            exact ⟨rfl, q, pend, by omega, hin5⟩
    case rest =>
      obtain ⟨rfl, q, pend, hpl, hin5⟩ := hcut
      go_wp2_with fail
      refine (crash_in _ [] hin5 (by simp; omega) (Row.nil _ _ _ _ _ (by decide))).mono ?_
      rintro e w6 ⟨rfl, hin6⟩
      replace hin6 : Dk.In w.heap.size w w6 a ⟨none, 8, H, C + pend.length, []⟩ := by
        have : Dk.crash ⟨some q, 8, H, C, pend⟩ [] = ⟨none, 8, H, C + pend.length, []⟩ := by simp [Dk.crash, Dk.kept_nil, Dk.puts]
        rwa [this] at hin6
      generalize hC2 : C + pend.length = C2 at *
      have hC28 : C2 ≤ 28 := by omega
      clear hC2 hpl hin5 hin4 hin3
      have HW := Lib.hid hw
      clear hw
      go_wp2_with fail
      go_loopw [12] (fun i wr => ∃ k : Nat, k ≤ 8 ∧ i = .int .i64 k ∧ Dk.In w.heap.size w wr a ⟨none, 8, H, C2, []⟩) (fun i _ => 8 - (intOf i).toNat)
      case atStart => exact ⟨0, Nat.zero_le _, rfl, hin6⟩
      case round =>
        obtain ⟨k, hk8, rfl, hin7⟩ := hrel
        by_cases hlt8 : k < 8
        · have hx2 : (k : Int) < 8 := by omega
          by_cases hlt0 : k < z0.length
          · obtain ⟨b, off, rfl, hb, hc⟩ := HA0.out (by rintro rfl; simp at hlt0)
            have hx1 : (k : Int) < (z0.length : Int) := by omega
            have hsz := HO0.out _ (List.getElem_mem hlt0)
            have hc1 := hc k hlt0
            have hrd : Hid (Dk.read ⟨none, 8, H, C2, []⟩ k = (Dk.cut z0[k], 0)) := by
              show _ = _
              rw [Dk.read_in _ _ (by omega) hx2]
              have := HW.out k
              rw [if_pos (by omega)] at this
              simp [Dk.at_, Dk.puts, this, hlt0]
            clear hc
            generalize z0[k] = t at *
            obtain ⟨m', hm'⟩ : ∃ m', m' = min t.size 64 := ⟨_, rfl⟩
            have hif : (if 64 < (t.size : Int) then (64 : Int) else (t.size : Int)) = (m' : Int) := by split <;> omega
            have hm1 : (0 : Int) ≤ (m' : Int) := by omega
            have hm2 : (m' : Int) ≤ (t.size : Int) := by omega
            go_wp2_with fail
            refine (read_in _ (k : Int) hin7 (by simp) (WalkArith.wf_i64 (by omega)) hrd.out).mono ?_
            rintro e w8 ⟨rfl, hb8⟩
            have hin8 := hin7.below hb8
            have hcell := (hin8.2.1.cell (p := ⟨b, off + k, none⟩) hb).trans hc1
            go_wp2_with fail
            go_quiet (fail)
            go_wp2_with fail
            go_roundw
            case rel => exact ⟨k + 1, by omega, by go_num, hin8.drewN _⟩
            case measure => simp [intOf]; omega
          · have hx1 : ¬ (k : Int) < (z0.length : Int) := by omega
            have hrd : Hid (Dk.read ⟨none, 8, H, C2, []⟩ k = (⟨#[]⟩, 0)) := by
              show _ = _
              rw [Dk.read_in _ _ (by omega) hx2]
              have := HW.out k
              rw [if_neg (by omega)] at this
              simp [Dk.at_, Dk.puts, this]
            go_wp2_with fail
            refine (read_in _ (k : Int) hin7 (by simp) (WalkArith.wf_i64 (by omega)) hrd.out).mono ?_
            rintro e w8 ⟨rfl, hb8⟩
            have hin8 := hin7.below hb8
            go_wp2_with fail
            go_roundw
            case rel => exact ⟨k + 1, by omega, by go_num, hin8⟩
            case measure => simp [intOf]; omega
        · obtain rfl : k = 8 := by omega
          go_wp2_with fail
          refine (pending_in hin7).mono ?_
          rintro e w' ⟨rfl, rfl⟩
          go_wp2_with fail
          refine (dfixed_any _).mono ?_
          rintro e w9 ⟨rfl, hb9⟩
          go_wp2_with fail
          go_ret
          exact ⟨rfl, (hin7.below hb9).2.1⟩
end Go.Proofs.Ytienbgfmhllgmaa
