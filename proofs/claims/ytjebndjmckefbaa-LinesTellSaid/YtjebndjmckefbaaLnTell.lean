/- The walk of stetlaw12.LinesTell. -/
import Derived.Test.YtjebndjmckefbaaRows
import Derived.Test.YtjebndjmckefbaaKit
import Derived.Test.YtjebndjmckefbaaIn
import Derived.Test.YtjebndjmckefbaaLnFixed
import Derived.Test.YtjebndjmckefbaaLnR2
import Derived.Test.YtjebndjmckefbaaLnR3
namespace Go.Proofs.Ytjebndjmckefbaa
open Go.RowKit

theorem rBreak_ints (ws : List Int) (width : Int) (v : Value) (w : World) (ys : List Int) (he : Ln.linesF (min (max width 1) 1000).toNat (ws.map Ln.clip) = ys) (hr : Ints w w.heap.size v ws) (hl : ws.length ≤ 1000) :
    Calls Try.prog 11 #[v, .int .i64 width] w fun e w' => ∃ r, e = .returned (.tuple #[r, .int .i64 0]) ∧ Ints w' w'.heap.size r ys ∧ Below w.heap.size w w' :=
  (rBreak_any ws width v w hr hl).mono fun _ _ ⟨r, h1, h2, h3⟩ => ⟨r, h1, he ▸ Row.own h2, h3⟩
theorem rCost_eq (ws ls : List Int) (width : Int) (v1 v2 : Value) (B1 B2 : Nat) (w : World) (a b : Int) (he : costV (Ln.costF (min (max width 1) 1000).toNat (ws.map Ln.clip) ls) = .tuple #[.int .i64 a, .int .i64 b]) (h1 : Ints w B1 v1 ws) (h2 : Ints w B2 v2 ls) (hl : ws.length ≤ 1000) (hl2 : ls.length ≤ 100000) :
    Calls Try.prog 9 #[v1, v2, .int .i64 width] w fun e w' => e = .returned (.tuple #[.int .i64 a, .int .i64 b]) ∧ w = w' :=
  (rCost_any ws ls width v1 v2 B1 B2 w h1 h2 hl hl2).mono fun _ _ ⟨h3, h4⟩ => ⟨he ▸ h3, h4⟩
theorem Cost_eq (ws ls : List Int) (width : Int) (v1 v2 : Value) (B1 B2 : Nat) (w : World) (a b : Int) (he : costV (Ln.costF (min (max width 1) 1000).toNat (ws.map Ln.clip) ls) = .tuple #[.int .i64 a, .int .i64 b]) (h1 : Ints w B1 v1 ws) (h2 : Ints w B2 v2 ls) (hl : ws.length ≤ 1000) (hl2 : ls.length ≤ 100000) :
    Calls Try.prog 8 #[v1, v2, .int .i64 width] w fun e w' => e = .returned (.tuple #[.int .i64 a, .int .i64 b]) ∧ w = w' :=
  (Cost_any ws ls width v1 v2 B1 B2 w h1 h2 hl hl2).mono fun _ _ ⟨h3, h4⟩ => ⟨he ▸ h3, h4⟩
theorem costV_form (r : Option Nat) : ∃ a b : Int, costV r = .tuple #[.int .i64 a, .int .i64 b] := by
  cases r with
  | none => exact ⟨0, 5, rfl⟩
  | some c => exact ⟨c, 0, rfl⟩

set_option maxRecDepth 100000 in
set_option maxHeartbeats 2000000 in
theorem tell_any (xs zs : List Int) (h : Int) (v v2 : Value) (w : World) (hr : Ints w w.heap.size v xs) (hr2 : Ints w w.heap.size v2 zs) :
    Calls Try.prog 3 #[v, v2, .int .i64 h] w fun e w' => e = .returned (.bool true) ∧ Below w.heap.size w w' := by
  obtain ⟨A, c, rfl, l1, m1, hA⟩ := hr.shape
  obtain ⟨A2, c2, rfl, l2, m2, hA2⟩ := hr2.shape
  obtain ⟨k, hk⟩ : ∃ k, k = min xs.length 200 := ⟨_, rfl⟩
  have hk1 : k ≤ xs.length := by omega
  have hk2 : k ≤ 200 := by omega
  obtain ⟨k', hk'⟩ : ∃ k', k' = min zs.length 201 := ⟨_, rfl⟩
  have hk1' : k' ≤ zs.length := by omega
  have hk2' : k' ≤ 201 := by omega
  have hcut := row_cut2 hr (n := 0) (m := k) (Nat.zero_le _) hk1 _ _ _ rfl
  have hcut' := row_cut2 hr2 (n := 0) (m := k') (Nat.zero_le _) hk1' _ _ _ rfl
  have HK := Lib.hid hk
  have HK' := Lib.hid hk'
  simp only [Nat.sub_zero, List.drop_zero] at hcut hcut'
  clear hk hk' hA hA2
  go_enter Try.func3, Try.ntmps3
  go_upto_region 1 with fail
  go_cut [0] (fun v wx => Ints w w.heap.size v (xs.take k) ∧ w = wx)
  case first =>
    go_wp2
    all_goals go_meet
    · obtain rfl : k = 200 := by have := HK.out; omega
      exact ⟨hcut, rfl⟩
    · obtain rfl : k = xs.length := by have := HK.out; omega
      exact ⟨hcut, rfl⟩
  case rest =>
    obtain ⟨hys, rfl⟩ := hcut
    have hl : (xs.take k).length ≤ 200 := by simp; omega
    clear hr hcut HK
    generalize xs.take k = ys at *
    go_upto_region 2 with fail
    go_cut [1] (fun v wx => Ints w w.heap.size v (zs.take k') ∧ w = wx)
    case first =>
      go_wp2
      all_goals go_meet
      · obtain rfl : k' = 201 := by have := HK'.out; omega
        exact ⟨hcut', rfl⟩
      · obtain rfl : k' = zs.length := by have := HK'.out; omega
        exact ⟨hcut', rfl⟩
    case rest =>
      obtain ⟨hls, rfl⟩ := hcut
      have hl2 : (zs.take k').length ≤ 201 := by simp; omega
      clear hr2 hcut' HK'
      generalize zs.take k' = ls at *
      obtain ⟨a, b, hab⟩ := costV_form (Ln.costF (min (max h 1) 1000).toNat (ys.map Ln.clip) ls)
      obtain ⟨ps, hps⟩ : ∃ ps, Ln.linesF (min (max h 1) 1000).toNat (ys.map Ln.clip) = ps := ⟨_, rfl⟩
      have HP := Lib.hid hps
      have HAB := Lib.hid hab
      clear hps hab
      go_wp2_with fail
      refine (Cost_eq ys ls h _ _ _ _ _ a b HAB.out hys hls (by omega) (by omega)).mono ?_
      rintro e w' ⟨rfl, rfl⟩
      go_wp2_with fail
      refine (rCost_eq ys ls h _ _ _ _ _ a b HAB.out hys hls (by omega) (by omega)).mono ?_
      rintro e w' ⟨rfl, rfl⟩
      clear hls HAB
      go_wp2_with fail
      refine (Break_ints ys h _ _ _ ps HP.out hys (Nat.le_refl _) (by omega)).mono ?_
      rintro e w1 ⟨ra, rfl, ha, b1⟩
      replace hys := hys.step b1
      go_wp2_with fail
      refine (rBreak_ints ys h _ _ ps HP.out hys (by omega)).mono ?_
      rintro e w2 ⟨rb, rfl, hb, b2⟩
      replace ha := ha.step b2
      have c2 := b1.trans (b2.mono b1.size)
      clear b1 b2 hys
      go_wp2_with fail
      refine (rInts_below ps _ _ _ _ _ ha hb).mono ?_
      rintro e w3 ⟨rfl, b3⟩
      have c3 := c2.trans (b3.mono c2.size)
      clear c2 b3 ha hb
      go_wp2_with fail
      refine (fixed_any _).mono ?_
      rintro e w6 ⟨rfl, b6⟩
      have c6 := c3.trans (b6.mono c3.size)
      clear c3 b6
      go_wp2_with fail
      go_ret
      exact ⟨rfl, c6⟩
end Go.Proofs.Ytjebndjmckefbaa
