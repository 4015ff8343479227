/- Which tables may be; orbits of a table; the walks of fix.may, stetref23.May. -/
import Derived.Test.YtgckcffgkgfakaaRows
import Derived.Test.YtgckcffgkgfakaaKit
import Derived.Test.YtgckcffgkgfakaaFxPl
namespace Go.Proofs.Ytgckcffgkgfakaa
open Go.RowKit

namespace Fx
def inT (n : Nat) (x : Int) : Bool := decide (0 ≤ x) && decide (x < n)
def mayF (next : List Int) (s : Int) : Bool := next.all (inT next.length) && inT next.length s
/-- A table as a function on places. -/
def nx (next : List Int) (s : Nat) : Nat := (next[s]?.getD 0).toNat
theorem mayF_inv {next : List Int} {s : Int} (h : mayF next s = true) : (∀ x ∈ next, 0 ≤ x ∧ x < next.length) ∧ 0 ≤ s ∧ s < next.length := by
  simp only [mayF, inT, Bool.and_eq_true, List.all_eq_true, decide_eq_true_eq] at h
  exact h
theorem nx_at {next : List Int} {k : Nat} (h : ∀ x ∈ next, 0 ≤ x ∧ x < next.length) (hk : k < next.length) : nx next k < next.length ∧ next[k] = ((nx next k : Nat) : Int) := by
  have h1 := h _ (List.getElem_mem hk)
  simp only [nx, List.getElem?_eq_getElem hk, Option.getD_some]
  omega
theorem orb_lt {next : List Int} {s : Nat} (h : ∀ x ∈ next, 0 ≤ x ∧ x < next.length) (hs : s < next.length) (k : Nat) : orb (nx next) s k < next.length := by
  induction k with
  | zero => exact hs
  | succ k ih => exact (nx_at h ih).1
/-- The first k states. -/
def ol (f : Nat → Nat) (s k : Nat) : List Int := (List.range k).map fun (j : Nat) => ((orb f s j : Nat) : Int)
theorem ol_succ (f : Nat → Nat) (s k : Nat) : ol f s (k + 1) = ol f s k ++ [((orb f s k : Nat) : Int)] := by simp [ol, List.range_succ]
theorem ol_length (f : Nat → Nat) (s k : Nat) : (ol f s k).length = k := by simp [ol]
theorem ol_get (f : Nat → Nat) (s k j : Nat) (h : j < (ol f s k).length) : (ol f s k)[j] = ((orb f s j : Nat) : Int) := by simp [ol]
theorem ol_last (f : Nat → Nat) (s k : Nat) (h : 0 < k) : (ol f s k).getLastD 0 = ((orb f s (k - 1) : Nat) : Int) := by
  obtain ⟨k, rfl⟩ : ∃ j, k = j + 1 := ⟨k - 1, by omega⟩
  rw [ol_succ]
  simp
theorem jv_before {f : Nat → Nat} {s m r : Nat} (h : Cyc f s m r) (B : Int) (k : Nat) (hk : k < m + r) : jv B (ol f s k) (orb f s k) = if B ≤ k then (3, 0, 0) else (0, 0, 0) := by
  have hn : ∀ j, j < k → ((orb f s j : Nat) : Int) ≠ (orb f s k : Nat) := fun j hj e => h.apart j k hj hk (by omega)
  have hnm : fidx (ol f s k) (orb f s k) = none := by
    rw [fidx_none]
    simp only [ol, List.mem_map, List.mem_range, not_exists, not_and]
    exact fun j hj => hn j hj
  unfold jv
  rw [ol_length, hnm, if_neg]
  rintro ⟨h1, h2⟩
  rw [ol_last f s k h1] at h2
  exact hn (k - 1) (by omega) h2
theorem jv_at {f : Nat → Nat} {s m r : Nat} (h : Cyc f s m r) (B : Int) : jv B (ol f s (m + r)) (orb f s (m + r)) = if r = 1 then (1, (m : Int), 0) else (2, (m : Int), ((m + r : Nat) : Int)) := by
  have hp := h.pos
  unfold jv
  by_cases hr : r = 1
  · subst hr
    rw [if_pos rfl, if_pos, ol_length]
    · simp
    · exact ⟨by rw [ol_length]; omega, by rw [ol_last _ _ _ (by omega), h.same]; rfl⟩
  · rw [if_neg hr, if_neg, ol_length]
    · have hg : (ol f s (m + r))[m]'(by rw [ol_length]; omega) = ((orb f s m : Nat) : Int) := ol_get _ _ _ _ _
      have := fidx_at (l := ol f s (m + r)) m (by rw [ol_length]; omega) (fun j hj => by
        rw [ol_get, ol_get]
        have := h.apart j m hj (by omega)
        omega)
      rw [hg] at this
      rw [h.same, this]
    · rintro ⟨_, h2⟩
      rw [ol_last _ _ _ (by omega), h.same] at h2
      exact h.apart m (m + r - 1) (by omega) (by omega) (by omega)
/-- How a walk of at most b rounds ends, and after how many states. -/
def walkV (m r : Nat) (b : Int) : V := if ((m + r : Nat) : Int) ≤ b then (if r = 1 then (1, (m : Int), 0) else (2, (m : Int), ((m + r : Nat) : Int))) else (3, 0, 0)
def walkN (m r : Nat) (b : Int) : Nat := min (m + r) b.toNat
theorem walk_on {f : Nat → Nat} {s m r : Nat} (h : Cyc f s m r) {b : Int} (k : Nat) (hk : k < walkN m r b) : jv b (ol f s k) (orb f s k) = (0, 0, 0) := by
  unfold walkN at hk
  rw [jv_before h b k (by omega), if_neg (by omega)]
theorem walk_end {f : Nat → Nat} {s m r : Nat} (h : Cyc f s m r) {b : Int} (hb : 1 ≤ b) : jv b (ol f s (walkN m r b)) (orb f s (walkN m r b)) = walkV m r b ∧ (walkV m r b).1 ≠ 0 := by
  unfold walkV
  by_cases hc : ((m + r : Nat) : Int) ≤ b
  · rw [if_pos hc, show walkN m r b = m + r by unfold walkN; omega, jv_at h]
    refine ⟨rfl, ?_⟩
    split <;> simp
  · rw [if_neg hc, show walkN m r b = b.toNat by unfold walkN; omega, jv_before h b _ (by omega), if_pos (by omega)]
    exact ⟨rfl, by simp⟩
end Fx

set_option maxHeartbeats 1000000 in
theorem may_any (next : List Int) (s : Int) (v : Value) (B : Nat) (w : World) (hr : Ints w B v next) :
    Calls Try.prog 18 #[v, .int .i64 s] w fun e w' => e = .returned (.bool (Fx.mayF next s)) ∧ w = w' := by
  obtain ⟨A, c, rfl, l1, m1, hA⟩ := hr.shape
  have HA := Lib.hid hA
  clear hA hr
  go_enter Try.func18, Try.ntmps18
  go_wp2
  go_loop [9] (fun i => ∃ k : Nat, k ≤ next.length ∧ i = .int .i64 k ∧ Hid ((next.take k).all (Fx.inT next.length) = true)) (fun i => next.length - (intOf i).toNat)
  case atStart => exact ⟨0, Nat.zero_le _, rfl, rfl⟩
  case round =>
    obtain ⟨k, hk, rfl, hall⟩ := hrel
    by_cases hlt : k < next.length
    · obtain ⟨b, off, rfl, _, hc⟩ := HA.out (by rintro rfl; simp at hlt)
      have hcell := hc k hlt
      have hi : (k : Int) < (next.length : Int) := by omega
      have HT : Hid (next.take (k + 1) = next.take k ++ [next[k]]) := List.take_succ_eq_append_getElem hlt
      have HM : Hid (next[k] ∈ next) := List.getElem_mem hlt
      clear hc
      generalize next[k] = x at *
      by_cases hx : 0 ≤ x ∧ x < next.length
      · have hx1 := hx.1
        have hx2 := hx.2
        clear hx
        go_wp2
        go_round
        case rel => exact ⟨k + 1, by omega, by go_num, by show _ = _; rw [HT.out, List.all_append, hall.out]; simp [Fx.inT, hx1, hx2]⟩
        case measure => simp [intOf]; omega
      · have hF : Hid (Fx.mayF next s = false) := by
          show _ = _
          cases h : Fx.mayF next s with
          | false => rfl
          | true => exact absurd ((Fx.mayF_inv h).1 x HM.out) hx
        by_cases hx0 : 0 ≤ x
        all_goals
          go_wp2
          all_goals first | (exfalso; omega) | skip
          all_goals go_ret
          all_goals exact ⟨ret_bool hF.out.symm, rfl⟩
    · obtain rfl : k = next.length := by omega
      have hF : Hid (Fx.mayF next s = (decide (0 ≤ s) && decide (s < (next.length : Int)))) := by
        show _ = _
        have := hall.out
        rw [List.take_length] at this
        simp [Fx.mayF, this, Fx.inT]
      go_wp2
      all_goals go_ret
      all_goals exact ⟨ret_bool (by rw [hF.out]; simp; omega), rfl⟩

set_option maxHeartbeats 1000000 in
theorem rMay_any (next : List Int) (s : Int) (v : Value) (B : Nat) (w : World) (hr : Ints w B v next) :
    Calls Try.prog 20 #[v, .int .i64 s] w fun e w' => e = .returned (.bool (Fx.mayF next s)) ∧ w = w' := by
  obtain ⟨A, c, rfl, l1, m1, hA⟩ := hr.shape
  have HA := Lib.hid hA
  clear hA hr
  go_enter Try.func20, Try.ntmps20
  go_wp2
  go_loop [5] (fun i => ∃ k : Nat, k ≤ next.length ∧ i = .int .i64 k ∧ Hid ((next.take k).all (Fx.inT next.length) = true)) (fun i => next.length - (intOf i).toNat)
  case atStart => exact ⟨0, Nat.zero_le _, rfl, rfl⟩
  case round =>
    obtain ⟨k, hk, rfl, hall⟩ := hrel
    by_cases hlt : k < next.length
    · obtain ⟨b, off, rfl, _, hc⟩ := HA.out (by rintro rfl; simp at hlt)
      have hcell := hc k hlt
      have hi : (k : Int) < (next.length : Int) := by omega
      have HT : Hid (next.take (k + 1) = next.take k ++ [next[k]]) := List.take_succ_eq_append_getElem hlt
      have HM : Hid (next[k] ∈ next) := List.getElem_mem hlt
      clear hc
      generalize next[k] = x at *
      by_cases hx : 0 ≤ x ∧ x < next.length
      · have hx1 := hx.1
        have hx2 := hx.2
        clear hx
        go_wp2
        go_round
        case rel => exact ⟨k + 1, by omega, by go_num, by show _ = _; rw [HT.out, List.all_append, hall.out]; simp [Fx.inT, hx1, hx2]⟩
        case measure => simp [intOf]; omega
      · have hF : Hid (Fx.mayF next s = false) := by
          show _ = _
          cases h : Fx.mayF next s with
          | false => rfl
          | true => exact absurd ((Fx.mayF_inv h).1 x HM.out) hx
        by_cases hx0 : 0 ≤ x
        all_goals
          go_wp2
          all_goals first | (exfalso; omega) | skip
          all_goals go_ret
          all_goals exact ⟨ret_bool hF.out.symm, rfl⟩
    · obtain rfl : k = next.length := by omega
      have hF : Hid (Fx.mayF next s = (decide (0 ≤ s) && decide (s < (next.length : Int)))) := by
        show _ = _
        have := hall.out
        rw [List.take_length] at this
        simp [Fx.mayF, this, Fx.inT]
      go_wp2
      all_goals go_ret
      all_goals exact ⟨ret_bool (by rw [hF.out]; simp; omega), rfl⟩
end Go.Proofs.Ytgckcffgkgfakaa
