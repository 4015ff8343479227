/- The walk of stetlaw13.PagesTell. -/
import Derived.Test.YtodbpnigadgliaaRows
import Derived.Test.YtodbpnigadgliaaPgPl
import Derived.Test.YtodbpnigadgliaaKit
import Derived.Test.YtodbpnigadgliaaPgFixed
import Derived.Test.YtodbpnigadgliaaPgRef
namespace Go.Proofs.Ytodbpnigadgliaa
open Go.RowKit

set_option maxHeartbeats 1000000 in
theorem tell_any (xs : List Int) (h i : Int) (v : Value) (w : World) (hr : Ints w w.heap.size v xs) (hi : i ≤ 9223372036854775807) :
    Calls Try.prog 3 #[v, .int .i64 h, .int .i64 i] w fun e w' => e = .returned (.bool true) ∧ Below w.heap.size w w' := by
  obtain ⟨A, c, rfl, l1, m1, hA⟩ := hr.shape
  obtain ⟨k, hk⟩ : ∃ k, k = min xs.length 200 := ⟨_, rfl⟩
  have hk1 : k ≤ xs.length := by omega
  have hk2 : k ≤ 200 := by omega
  have hcut := row_cut2 hr (n := 0) (m := k) (Nat.zero_le _) hk1 _ _ _ rfl
  have HK := Lib.hid hk
  simp only [Nat.sub_zero, List.drop_zero] at hcut
  clear hk hA
  go_enter Try.func3, Try.ntmps3
  go_upto_region 1 with fail
  go_cut [0] (fun v wx => Ints w w.heap.size v (xs.take k) ∧ w = wx)
  case first =>
    go_wp2
    all_goals go_meet
    · obtain rfl : k = 200 := by have := HK.out; omega
      exact ⟨hcut, rfl⟩
    · obtain rfl : k = xs.length := by have := HK.out; omega
      exact ⟨hcut, rfl⟩
  case rest =>
    obtain ⟨hys, rfl⟩ := hcut
    have hl : (xs.take k).length ≤ 200 := by simp; omega
    clear hr hcut HK
    generalize xs.take k = ys at *
    obtain ⟨ps, hps⟩ : ∃ ps, pagesF ys (min (max h 1) 1000).toNat = ps := ⟨_, rfl⟩
    have hp1 : ∀ x ∈ ps, 1 ≤ x ∧ x ≤ ys.length := by rw [← hps]; exact pagesF_pos _ (by omega) _ ys (Nat.le_refl _)
    have hp2 : ps.length ≤ ys.length := by rw [← hps]; exact pagesF_len _ (by omega) _ ys (Nat.le_refl _)
    have hp3 : ∀ x ∈ ps, 0 ≤ x := fun x hx => by have := hp1 x hx; omega
    have hp4 : ∀ x ∈ ps, 0 ≤ x ∧ x ≤ 1000000 := fun x hx => by have := hp1 x hx; omega
    have HP := Lib.hid hps
    have H3 := Lib.hid hp3
    have H4 := Lib.hid hp4
    clear hps hp1 hp3 hp4
    go_wp2_with fail
    refine (pages_ints ys h _ _ _ ps HP.out hys (Nat.le_refl _) (by omega)).mono ?_
    rintro e w1 ⟨ra, rfl, ha, b1⟩
    replace hys := hys.step b1
    go_wp2_with fail
    refine (rPages_ints ys h _ _ _ ps HP.out hys (Nat.le_refl _) (by omega)).mono ?_
    rintro e w2 ⟨rb, rfl, hb, b2⟩
    replace ha := ha.step b2
    have c2 := b1.trans (b2.mono b1.size)
    clear b1 b2 hys
    go_wp2_with fail
    refine (rInts_below ps _ _ _ _ _ ha hb).mono ?_
    rintro e w3 ⟨rfl, b3⟩
    replace ha := ha.step b3
    replace hb := hb.step b3
    have c3 := c2.trans (b3.mono c2.size)
    clear c2 b3
    go_wp2_with fail
    refine (of_below ps i _ _ _ _ rfl ha H3.out hi (by omega)).mono ?_
    rintro e w4 ⟨rfl, b4⟩
    replace hb := hb.step b4
    have c4 := c3.trans (b4.mono c3.size)
    clear c3 b4 ha
    go_wp2_with fail
    refine (rOf_any ps i _ _ _ hb H4.out hi (by omega)).mono ?_
    rintro e w5 ⟨rfl, rfl⟩
    generalize ofF ps (max i 0) 0 (max 1 ↑ps.length) = q at *
    go_wp2_with fail
    refine (fixed_any _).mono ?_
    rintro e w6 ⟨rfl, b6⟩
    have c6 := c4.trans (b6.mono c4.size)
    clear c4 b6
    go_wp2_with fail
    go_ret
    exact ⟨rfl, c6⟩
end Go.Proofs.Ytodbpnigadgliaa
