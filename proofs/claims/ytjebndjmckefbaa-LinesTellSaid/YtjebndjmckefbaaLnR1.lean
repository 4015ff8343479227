/- The walks of stetref12: Width, Line, Takes, cost, Cost. -/
import Derived.Test.YtjebndjmckefbaaRows
import Derived.Test.YtjebndjmckefbaaKit
import Derived.Test.YtjebndjmckefbaaLnW1
namespace Go.Proofs.Ytjebndjmckefbaa
open Go.RowKit

set_option maxHeartbeats 400000 in
theorem rWidth_any (n : Int) (w : World) :
    Calls Try.prog 22 #[.int .i64 n] w fun e w' => e = .returned (.int .i64 (Ln.clip n)) ∧ w = w' := by
  go_enter Try.func22, Try.ntmps22
  go_wp2
  all_goals go_ret
  all_goals exact ⟨ret_int (by unfold Ln.clip; omega), rfl⟩
set_option maxHeartbeats 400000 in
theorem rLine_any (n : Int) (w : World) :
    Calls Try.prog 18 #[.int .i64 n] w fun e w' => e = .returned (.int .i64 (min (max n 1) 1000)) ∧ w = w' := by
  go_enter Try.func18, Try.ntmps18
  go_wp2
  all_goals go_ret
  all_goals exact ⟨ret_int (by omega), rfl⟩

theorem sum_dt_succ (W : List Nat) (at_ k : Nat) (h : at_ + k < W.length) : ((W.drop at_).take (k + 1)).sum = ((W.drop at_).take k).sum + W[at_ + k] := by
  rw [sum_take_succ _ _ (by simp; omega)]; simp

set_option maxHeartbeats 1000000 in
theorem rTakes_any (ws : List Int) (at_ m : Nat) (v : Value) (B : Nat) (w : World) (hr : Ints w B v ws) (hl : ws.length ≤ 20000) (hm : at_ + m ≤ ws.length) (hm1 : 1 ≤ m) :
    Calls Try.prog 19 #[v, .int .i64 at_, .int .i64 m] w fun e w' => e = .returned (.int .i64 (Ln.tks ((ws.map Ln.clip).drop at_) m)) ∧ w = w' := by
  obtain ⟨A, c, rfl, l1, m1, hA⟩ := hr.shape
  have HA := Lib.hid hA
  have HT := Lib.hid (tks_take ((ws.map Ln.clip).drop at_) m hm1)
  clear hA hr
  go_enter Try.func19, Try.ntmps19
  go_wp2
  go_loop [7, 8] (fun n i => ∃ k : Nat, k ≤ m ∧ i = .int .i64 ((at_ : Int) + k) ∧ n = .int .i64 (((((ws.map Ln.clip).drop at_).take k).sum : Int) + m - 1)) (fun _ i => at_ + m - (intOf i).toNat)
  case atStart => exact ⟨0, Nat.zero_le _, by simp, by simp⟩
  case round =>
    obtain ⟨k, hk, rfl, rfl⟩ := hrel
    have hs := sum_take_le ((ws.map Ln.clip).drop at_) k (fun x hx => clips_le ws x (List.mem_of_mem_drop hx))
    by_cases hlt : k < m
    · obtain ⟨b, off, rfl, _, hc⟩ := HA.out (by rintro rfl; simp at hm; omega)
      have hw : at_ + k < ws.length := by omega
      have hcell := hc (at_ + k) hw
      have hsu : Hid ((((ws.map Ln.clip).drop at_).take (k + 1)).sum = (((ws.map Ln.clip).drop at_).take k).sum + Ln.clip ws[at_ + k]) := by
        show _ = _
        rw [sum_dt_succ _ at_ k (by simpa using hw)]; simp
      have hcl := Ln.clip_le ws[at_ + k]
      have hi : ((at_ : Int) + k) = ((at_ + k : Nat) : Int) := by omega
      rw [hi]
      have HI := Lib.hid hi
      clear hc hi
      generalize (((ws.map Ln.clip).drop at_).take k).sum = s at *
      generalize ws[at_ + k] = z at *
      generalize hj : at_ + k = j at *
      have hlt2 : (j : Int) < (at_ : Int) + (m : Int) := by omega
      go_wp2_with (go_at_call 22; refine (rWidth_any _ _).mono ?_; rintro e w' ⟨rfl, rfl⟩)
      go_round
      case rel => exact ⟨k + 1, by omega, by go_num, by rw [hsu.out]; congr 1; push_cast; omega⟩
      case measure => simp [intOf]; omega
    · obtain rfl : k = m := by omega
      go_wp2_with fail
      go_ret
      exact ⟨ret_int HT.out, rfl⟩

set_option maxHeartbeats 400000 in
theorem rcost_any (t width : Nat) (b : Bool) (w : World) (ht : t ≤ 100000000) (hw : width ≤ 1000) :
    Calls Try.prog 20 #[.int .i64 t, .int .i64 width, .bool b] w fun e w' => e = .returned (.int .i64 (Ln.lc width t b)) ∧ w = w' := by
  have HL : Hid (((Ln.lc width t b : Nat) : Int) = if b = true ∨ (width : Int) < t then 0 else ((width : Int) - t) * ((width : Int) - t)) := lc_int width t b
  cases b with
  | true =>
    go_enter Try.func20, Try.ntmps20
    go_wp2
    go_ret
    exact ⟨ret_int (by rw [HL.out]; simp), rfl⟩
  | false =>
    by_cases h : width < t
    · go_enter Try.func20, Try.ntmps20
      go_wp2
      go_ret
      exact ⟨ret_int (by rw [HL.out, if_pos (.inr (by omega))]), rfl⟩
    · have h1 : ((width : Int) - t) * ((width : Int) - t) ≤ 1000000 := by
        have : ((width : Int) - t) * ((width : Int) - t) = (((width - t) * (width - t) : Nat) : Int) := by rw [Int.natCast_mul]; congr 1 <;> omega
        rw [this]
        have := Nat.mul_le_mul (show width - t ≤ 1000 by omega) (show width - t ≤ 1000 by omega)
        omega
      have h0 : 0 ≤ ((width : Int) - t) * ((width : Int) - t) := Int.mul_nonneg (by omega) (by omega)
      go_enter Try.func20, Try.ntmps20
      go_wp2
      go_ret
      exact ⟨ret_int (by rw [HL.out, if_neg (by simp; omega)]), rfl⟩

end Go.Proofs.Ytjebndjmckefbaa
