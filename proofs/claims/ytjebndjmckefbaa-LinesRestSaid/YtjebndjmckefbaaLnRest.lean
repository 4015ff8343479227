/- The walk of stetlaw12.LinesRest. -/
import Derived.Test.YtjebndjmckefbaaRows
import Derived.Test.YtjebndjmckefbaaKit
import Derived.Test.YtjebndjmckefbaaLnFixed
namespace Go.Proofs.Ytjebndjmckefbaa
open Go.RowKit

set_option maxRecDepth 100000 in
set_option maxHeartbeats 4000000 in
theorem rest_any (xs : List Int) (h : Int) (v : Value) (w : World) (hr : Ints w w.heap.size v xs) :
    Calls Try.prog 5 #[v, .int .i64 h] w fun e w' => e = .returned (.bool true) ∧ Below w.heap.size w w' := by
  obtain ⟨A, c, rfl, l1, m1, hA⟩ := hr.shape
  obtain ⟨k, hk⟩ : ∃ k, k = min xs.length 100 := ⟨_, rfl⟩
  have hk1 : k ≤ xs.length := by omega
  have hk2 : k ≤ 100 := by omega
  have hcut := row_cut2 hr (n := 0) (m := k) (Nat.zero_le _) hk1 _ _ _ rfl
  have HK := Lib.hid hk
  simp only [Nat.sub_zero, List.drop_zero] at hcut
  clear hk hA
  go_enter Try.func5, Try.ntmps5
  go_upto_region 1 with fail
  go_cut [0] (fun v wx => Ints w w.heap.size v (xs.take k) ∧ w = wx)
  case first =>
    go_wp2
    all_goals go_meet
    · obtain rfl : k = 100 := by have := HK.out; omega
      exact ⟨hcut, rfl⟩
    · obtain rfl : k = xs.length := by have := HK.out; omega
      exact ⟨hcut, rfl⟩
  case rest =>
    obtain ⟨hys, rfl⟩ := hcut
    have hl : (xs.take k).length ≤ 100 := by simp; omega
    clear hr hcut HK
    generalize xs.take k = ys at *
    obtain ⟨M, hM⟩ : ∃ M : Nat, M = (min (max h 1) 1000).toNat := ⟨_, rfl⟩
    have hM2 : M ≤ 1000 := by omega
    have HM := Lib.hid hM
    clear hM
    obtain ⟨A, cy, rfl, ly, my, hA⟩ := hys.shape
    clear hA
    by_cases hne : ys = []
    · subst hne
      go_wp2_with fail
      refine (Break_ints [] h _ _ _ [] rfl hys (Nat.le_refl _) (by decide)).mono ?_
      rintro e w1 ⟨ra, rfl, ha, b1⟩
      obtain ⟨Aa, ca, rfl, _, _, _⟩ := ha.shape
      clear ha
      go_wp2_with fail
      refine (fixed_any _).mono ?_
      rintro e w6 ⟨rfl, b6⟩
      have c6 := b1.trans (b6.mono b1.size)
      go_wp2_with fail
      go_ret
      exact ⟨rfl, c6⟩
    · have hWne : ys.map Ln.clip ≠ [] := by simpa using hne
      have hbp := Ln.best_pos M (ys.map Ln.clip) hWne
      have hcons := Ln.linesF_cons M (ys.map Ln.clip) hWne
      have hc1 := Ln.costF_lines M _ (ys.map Ln.clip) (Nat.le_refl _)
      have hc2 := Ln.costF_lines M _ ((ys.map Ln.clip).drop (Ln.best M (ys.map Ln.clip)).2) (Nat.le_refl _)
      have htop := Ln.best_top M (ys.map Ln.clip) hWne
      have hlen := Ln.lines_len M _ (ys.map Ln.clip) (Nat.le_refl _)
      have hnil := Ln.lines_nil M ((ys.map Ln.clip).drop (Ln.best M (ys.map Ln.clip)).2)
      have hb1 := Ln.best_le M hM2 _ (ys.map Ln.clip) (Nat.le_refl _)
      have hcd : (Ln.best M ((ys.map Ln.clip).drop (Ln.best M (ys.map Ln.clip)).2)).1 ≤ (Ln.best M (ys.map Ln.clip)).1 := by
        conv => rhs; rw [htop.eq]
        unfold Ln.cand; omega
      have hz : (ys.map Ln.clip).drop (Ln.best M (ys.map Ln.clip)).2 = [] → (Ln.best M (ys.map Ln.clip)).1 = 0 := by
        intro h0
        have h1 := List.drop_eq_nil_iff.1 h0
        have h2 : (Ln.best M (ys.map Ln.clip)).2 = (ys.map Ln.clip).length := by omega
        rw [htop.eq]
        unfold Ln.cand Ln.lc
        rw [if_pos (.inl (by simpa using h2)), h0]; rfl
      clear htop
      rw [hcons] at hc1 hlen
      rw [← List.map_drop] at hc1 hc2 hcons hlen hnil hcd hz
      rw [List.length_map] at hbp hlen hb1
      generalize (Ln.best M (ys.map Ln.clip)).1 = cost1 at *
      generalize (Ln.best M (ys.map Ln.clip)).2 = n at *
      generalize hrest : Ln.linesF M ((ys.drop n).map Ln.clip) = rest at *
      generalize (Ln.best M ((ys.drop n).map Ln.clip)).1 = cost2 at *
      simp only [List.length_cons] at hlen
      have hn1 := hbp.1
      have hn2 := hbp.2
      have HC : Hid (Ln.linesF (min (max h 1) 1000).toNat (ys.map Ln.clip) = (n : Int) :: rest) := by rw [← HM.out]; exact hcons
      have HD : Hid (Ln.linesF (min (max h 1) 1000).toNat ((ys.drop n).map Ln.clip) = rest) := by rw [← HM.out]; exact hrest
      have HE1 : Hid (Ln.costF (min (max h 1) 1000).toNat (ys.map Ln.clip) ((n : Int) :: rest) = some cost1) := by rw [← HM.out]; exact hc1
      have HE2 : Hid (Ln.costF (min (max h 1) 1000).toNat ((ys.drop n).map Ln.clip) rest = some cost2) := by rw [← HM.out]; exact hc2
      have HZ : Hid (rest = [] → cost1 = 0) := fun h0 => hz (hnil.1 h0)
      clear hcons hrest hc1 hc2 hnil hz hbp hWne HM
      have hpos : 0 < ys.length := List.length_pos_iff.2 hne
      have hys0 := hys
      go_wp2_with fail
      refine (Break_ints ys h _ _ _ _ HC.out hys (Nat.le_refl _) (by omega)).mono ?_
      rintro e w1 ⟨ra, rfl, ha, b1⟩
      replace hys := hys.step b1
      obtain ⟨Aa, ca, rfl, la, ma, hAa⟩ := ha.shape
      obtain ⟨ba, oa, rfl, hba, hca⟩ := hAa (by simp)
      have hc0 := hca 0 (by simp)
      simp only [Nat.add_zero, List.getElem_cons_zero] at hc0
      have hct := row_cut hys hn2 _ _ _ rfl
      have hct1 := row_cut ha (n := 1) (by simp) _ _ _ rfl
      simp only [List.drop_succ_cons, List.drop_zero] at hct1
      clear hca hAa hys0
      simp only [List.length_cons] at *
      have t0 : ((ys.length : Int) == 0) = false := by simp; omega
      have t1 : (((rest.length : Int) + 1) == 0) = false := by simp; omega
      have t2 : decide ((n : Int) < 1) = false := by simp; omega
      have t3 : decide (ys.length < n) = false := by simp; omega
      have hdl : (ys.drop n).length ≤ 1000 := by simp; omega
      go_wp2_with fail
      refine (Break_ints (ys.drop n) h _ _ _ _ HD.out hct (Nat.le_refl _) hdl).mono ?_
      rintro e w2 ⟨rb, rfl, hb, b2⟩
      have hc0' := (b2.cell (p := ⟨ba, oa, none⟩) hba).trans hc0
      replace ha := ha.step b2
      replace hys := hys.step b2
      replace hct := hct.step b2
      replace hct1 := hct1.step b2
      have hba2 : ba < w2.heap.size := Nat.lt_of_lt_of_le hba b2.size
      have c2 := b1.trans (b2.mono b1.size)
      clear b1 b2 hc0 hba
      go_wp2_with fail
      refine (Cost_ok ys ((n : Int) :: rest) h _ _ _ _ _ cost1 HE1.out hys ha (by omega) (by simp; omega)).mono ?_
      rintro e w3 ⟨rfl, b3⟩
      have hc0'' := (b3.cell (p := ⟨ba, oa, none⟩) hba2).trans hc0'
      replace hb := hb.step b3
      replace hct := hct.step b3
      replace hct1 := hct1.step b3
      have c3 := c2.trans (b3.mono c2.size)
      clear c2 b3 hc0' hba2 ha hys
      go_wp2_with fail
      refine (Cost_ok (ys.drop n) rest h _ _ _ _ _ cost2 HE2.out hct hb hdl (by omega)).mono ?_
      rintro e w4 ⟨rfl, b4⟩
      replace hb := hb.step b4
      replace hct1 := hct1.step b4
      have c4 := c3.trans (b4.mono c3.size)
      clear c3 b4 hct hc0''
      simp only [Nat.add_sub_cancel] at hct1
      obtain ⟨Ab, cb, rfl, lb, mb, hAb⟩ := hb.shape
      clear hAb
      go_wp2_with fail
      refine (rInts_below rest _ _ _ _ _ hct1 hb).mono ?_
      rintro e w5 ⟨rfl, b5⟩
      have c5 := c4.trans (b5.mono c4.size)
      clear c4 b5 hb hct1
      by_cases h0 : rest = []
      · have hz0 := HZ.out h0
        subst h0 hz0
        go_wp2_with fail
        refine (fixed_any _).mono ?_
        rintro e w6 ⟨rfl, b6⟩
        have c6 := c5.trans (b6.mono c5.size)
        go_wp2_with fail
        go_ret
        exact ⟨rfl, c6⟩
      · have hrp : 0 < rest.length := List.length_pos_iff.2 h0
        clear h0
        go_wp2_with fail
        refine (fixed_any _).mono ?_
        rintro e w6 ⟨rfl, b6⟩
        have c6 := c5.trans (b6.mono c5.size)
        go_wp2_with fail
        go_ret
        exact ⟨rfl, c6⟩
end Go.Proofs.Ytjebndjmckefbaa
