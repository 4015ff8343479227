/- The walk of stetlaw13.PagesRest, and the plain law that it wants. -/
import Derived.Test.YtodbpnigadgliaaRows
import Derived.Test.YtodbpnigadgliaaPgPl
import Derived.Test.YtodbpnigadgliaaKit
import Derived.Test.YtodbpnigadgliaaPgFixed
namespace Go.Proofs.Ytodbpnigadgliaa
open Go.RowKit

theorem ofF_shift (ps : List Int) : ∀ (j p l1 l2 : Int), 0 ≤ j → j < ps.sum → ofF ps j p l1 = p + ofF ps j 0 l2 := by
  induction ps with
  | nil => intro j p l1 l2 h1 h2; simp at h2; omega
  | cons n ns ih =>
    intro j p l1 l2 h1 h2
    simp only [List.sum_cons] at h2
    simp only [ofF]
    split
    · omega
    · rw [ih (j - n) (p + 1) l1 l2 (by omega) (by omega), ih (j - n) (0 + 1) l2 l2 (by omega) (by omega)]; omega
theorem pagesF_sum (h : Nat) (hh : 1 ≤ h) : ∀ (n : Nat) (xs : List Int), xs.length ≤ n → (pagesF xs h).sum = xs.length := by
  intro n
  induction n with
  | zero =>
    intro xs hn
    have : xs = [] := List.eq_nil_of_length_eq_zero (by omega)
    subst this
    simp [pagesF_nil]
  | succ n ih =>
    intro xs hn
    by_cases hx : xs = []
    · subst hx; simp [pagesF_nil]
    · have hl : 0 < xs.length := List.length_pos_iff.2 hx
      have hp := oneF_pos xs h hh hx
      have hq := oneF_le xs h
      rw [pagesF_cons xs h hh hx, List.sum_cons, ih _ (by rw [List.length_drop]; omega), List.length_drop]
      omega
theorem ofF_bound (ps : List Int) : ∀ (j p l : Int), 0 ≤ p → 0 ≤ ofF ps j p l ∨ ofF ps j p l = l := by
  induction ps with
  | nil => intro j p l _; exact .inr rfl
  | cons n ns ih =>
    intro j p l hp
    simp only [ofF]
    split
    · exact .inl (by omega)
    · exact ih _ _ _ (by omega)
theorem ofF_le (ps : List Int) : ∀ (j p l : Int), 0 ≤ j → j < ps.sum → p + 1 ≤ ofF ps j p l ∧ ofF ps j p l ≤ p + ps.length := by
  induction ps with
  | nil => intro j p l h1 h2; simp at h2; omega
  | cons n ns ih =>
    intro j p l h1 h2
    simp only [List.sum_cons] at h2
    simp only [ofF, List.length_cons]
    split
    · omega
    · have := ih (j - n) (p + 1) l (by omega) (by omega); omega

set_option maxRecDepth 100000 in
set_option maxHeartbeats 4000000 in
theorem rest_any (xs : List Int) (h i : Int) (v : Value) (w : World) (hr : Ints w w.heap.size v xs) (hi : 0 ≤ i ∧ i ≤ 255) :
    Calls Try.prog 6 #[v, .int .i64 h, .int .u8 i] w fun e w' => e = .returned (.bool true) ∧ Below w.heap.size w w' := by
  obtain ⟨A, c, rfl, l1, m1, hA⟩ := hr.shape
  obtain ⟨k, hk⟩ : ∃ k, k = min xs.length 100 := ⟨_, rfl⟩
  have hk1 : k ≤ xs.length := by omega
  have hk2 : k ≤ 100 := by omega
  have hcut := row_cut2 hr (n := 0) (m := k) (Nat.zero_le _) hk1 _ _ _ rfl
  have HK := Lib.hid hk
  simp only [Nat.sub_zero, List.drop_zero] at hcut
  clear hk hA
  go_enter Try.func6, Try.ntmps6
  go_upto_region 1 with fail
  go_cut [0] (fun v wx => Ints w w.heap.size v (xs.take k) ∧ w = wx)
  case first =>
    go_wp2
    all_goals go_meet
    · obtain rfl : k = 100 := by have := HK.out; omega
      exact ⟨hcut, rfl⟩
    · obtain rfl : k = xs.length := by have := HK.out; omega
      exact ⟨hcut, rfl⟩
  case rest =>
    obtain ⟨hys, rfl⟩ := hcut
    have hl : (xs.take k).length ≤ 100 := by simp; omega
    clear hr hcut HK
    generalize xs.take k = ys at *
    obtain ⟨m, hm⟩ : ∃ m : Nat, m = (min (max h 1) 1000).toNat := ⟨_, rfl⟩
    have hm1 : 1 ≤ m := by omega
    have HM := Lib.hid hm
    clear hm
    obtain ⟨A, cy, rfl, ly, my, hA⟩ := hys.shape
    by_cases hne : ys = []
    · subst hne
      clear hA
      go_wp2_with fail
      refine (pages_ints [] h _ _ _ [] rfl hys (Nat.le_refl _) (by decide)).mono ?_
      rintro e w1 ⟨ra, rfl, ha, b1⟩
      obtain ⟨Aa, ca, rfl, _, _, _⟩ := ha.shape
      clear ha
      go_wp2_with fail
      refine (fixed_any _).mono ?_
      rintro e w6 ⟨rfl, b6⟩
      have c6 := b1.trans (b6.mono b1.size)
      go_wp2_with fail
      go_ret
      exact ⟨rfl, c6⟩
    · have hn1 := oneF_pos ys m hm1 hne
      have hn2 := oneF_le ys m
      obtain ⟨ps, hps⟩ : ∃ ps, pagesF (ys.drop (oneF ys m)) m = ps := ⟨_, rfl⟩
      have hp1 : ∀ x ∈ pagesF ys m, 1 ≤ x ∧ x ≤ ys.length := pagesF_pos _ hm1 _ ys (Nat.le_refl _)
      have hp2 : (pagesF ys m).length ≤ ys.length := pagesF_len _ hm1 _ ys (Nat.le_refl _)
      have hsum : (pagesF (ys.drop (oneF ys m)) m).sum = (ys.drop (oneF ys m)).length := pagesF_sum _ hm1 _ _ (Nat.le_refl _)
      have hcons := pagesF_cons ys m hm1 hne
      rw [hcons] at hp1 hp2
      rw [hps] at hcons hp1 hp2 hsum
      rw [List.length_drop] at hsum
      simp only [List.length_cons] at hp2
      have hpos : 0 < ys.length := List.length_pos_iff.2 hne
      obtain ⟨n, hn⟩ : ∃ n, n = oneF ys m := ⟨_, rfl⟩
      rw [← hn] at hn1 hn2 hcons hp1 hps hsum
      have HP3 : Hid (∀ x ∈ (n : Int) :: ps, 0 ≤ x) := fun x hx => by have := hp1 x hx; omega
      have HP4 : Hid (∀ x ∈ ps, 0 ≤ x) := fun x hx => by have := hp1 x (List.mem_cons_of_mem _ hx); omega
      have HS := Lib.hid hsum
      have HC : Hid (pagesF ys (min (max h 1) 1000).toNat = (n : Int) :: ps) := by rw [← HM.out]; exact hcons
      have HD : Hid (pagesF (ys.drop n) (min (max h 1) 1000).toNat = ps) := by rw [← HM.out]; exact hps
      clear hps hsum hcons hp1 hn HM hA
      go_wp2_with fail
      refine (pages_ints ys h _ _ _ _ HC.out hys (Nat.le_refl _) (by omega)).mono ?_
      rintro e w1 ⟨ra, rfl, ha, b1⟩
      replace hys := hys.step b1
      obtain ⟨Aa, ca, rfl, la, ma, hAa⟩ := ha.shape
      obtain ⟨ba, oa, rfl, hba, hca⟩ := hAa (by simp)
      have hc0 := hca 0 (by simp)
      simp only [Nat.add_zero, List.getElem_cons_zero] at hc0
      have hct := row_cut hys hn2 _ _ _ rfl
      have hct1 := row_cut ha (n := 1) (by simp) _ _ _ rfl
      simp only [List.drop_succ_cons, List.drop_zero] at hct1
      clear hca hAa
      simp only [List.length_cons] at *
      have t1 : (((ps.length : Int) + 1) == 0) = false := by simp; omega
      have t2 : decide ((n : Int) < 1) = false := by simp; omega
      have t3 : decide (ys.length < n) = false := by simp; omega
      go_wp2_with fail
      refine (pages_ints (ys.drop n) h _ _ _ _ HD.out hct (Nat.le_refl _) (by simp; omega)).mono ?_
      rintro e w2 ⟨rb, rfl, hb, b2⟩
      have hc0' := (b2.cell (p := ⟨ba, oa, none⟩) hba).trans hc0
      replace ha := ha.step b2
      replace hct1 := hct1.step b2
      have c2 := b1.trans (b2.mono b1.size)
      clear b1 b2 hys hct hc0 hba
      obtain ⟨Ab, cb, rfl, lb, mb, hAb⟩ := hb.shape
      clear hAb
      obtain ⟨q, hq⟩ : ∃ q : Nat, (q : Int) = i % (ys.length : Int) := ⟨(i % (ys.length : Int)).toNat, Int.toNat_of_nonneg (Int.emod_nonneg _ (by omega))⟩
      have hq1 : q < ys.length := by have := Int.emod_lt_of_pos i (show (0 : Int) < ys.length by omega); omega
      have HQ : Hid (i % (ys.length : Int) = q) := hq.symm
      clear hq
      go_upto_region 7 with fail
      rw [HQ.out]
      simp only [Nat.add_sub_cancel] at hct1
      have HO := hb
      by_cases hqn : q < n
      · have HR : Hid (ofF ((n : Int) :: ps) (max (q : Int) 0) 0 (max 1 (((n : Int) :: ps).length : Int)) = 1) := by
          show _ = _
          rw [ofF, if_pos (by omega)]; rfl
        go_wp2_with fail
        refine (rInts_below ps _ _ _ _ _ hct1 hb).mono ?_
        rintro e w3 ⟨rfl, b3⟩
        replace ha := ha.step b3
        have c3 := c2.trans (b3.mono c2.size)
        clear c2 b3 hb hct1 hc0' HO
        go_wp2_with fail
        refine (of_below _ (q : Int) 1 _ _ _ HR.out ha HP3.out (by omega) (by simp; omega)).mono ?_
        rintro e w4 ⟨rfl, b4⟩
        have c4 := c3.trans (b4.mono c3.size)
        clear c3 b4 ha
        go_wp2_with fail
        refine (fixed_any _).mono ?_
        rintro e w6 ⟨rfl, b6⟩
        have c6 := c4.trans (b6.mono c4.size)
        clear c4 b6
        go_wp2_with fail
        go_ret
        exact ⟨rfl, c6⟩
      · obtain ⟨r, hr⟩ : ∃ r, r = ofF ps ((q : Int) - n) 0 (max 1 (ps.length : Int)) := ⟨_, rfl⟩
        have hj : ((q : Int) - n) < ps.sum := by have := HS.out; omega
        have hb2 := ofF_le ps ((q : Int) - n) 0 (max 1 (ps.length : Int)) (by omega) hj
        rw [← hr] at hb2
        have HR1 : Hid (ofF ((n : Int) :: ps) (max (q : Int) 0) 0 (max 1 (((n : Int) :: ps).length : Int)) = 1 + r) := by
          show _ = _
          rw [ofF, if_neg (by omega), show max (q : Int) 0 - n = (q : Int) - n from by omega, ofF_shift ps _ _ _ (max 1 (ps.length : Int)) (by omega) hj, hr]; omega
        have HR2 : Hid (ofF ps (max ((q : Int) - n) 0) 0 (max 1 (ps.length : Int)) = r) := by
          show _ = _
          rw [show max ((q : Int) - n) 0 = (q : Int) - n from by omega, hr]
        have hr1 := hb2.1
        have hr2 := hb2.2
        have hle1 : (0 : Int) ≤ (q : Int) - (n : Int) := by omega
        clear hr hj hb2
        go_upto_region 9 with fail
        have hcell := fun (d : Nat) (os : Array Obj) => cell_regrown hc0' d os
        clear hc0'
        refine wp_region_quiet_below (by kernel_rfl) (by kernel_rfl) ?_
        repeat (go_big_quiet_step (first
          | (go_at_call 10; exact calls_regrown (rInts_below ps _ _ _ _ _ (hct1.below (regrown_below _ _) (Nat.le_refl _)) (hb.below (regrown_below _ _) (Nat.le_refl _))))
          | (go_at_call_of 11 (Value.slice Ab ps.length cb); exact calls_regrown (of_below ps ((q : Int) - n) r _ _ _ HR2.out (hb.below (regrown_below _ _) (Nat.le_refl _)) HP4.out (by omega) (by omega)))
          | (go_at_call 11; exact calls_regrown (of_below _ (q : Int) (1 + r) _ _ _ HR1.out (ha.below (regrown_below _ _) (Nat.le_refl _)) HP3.out (by omega) (by simp; omega)))
          | (go_at_call 13; exact calls_regrown (fixed_any _))))
        refine wpQuiet_nil ?_
        intro _ hw'
        obtain ⟨p, hw''⟩ := hw'
        subst hw''
        go_wp2_with fail
        go_ret
        exact ⟨rfl, c2.trans ((regrown_below w2 p).mono c2.size)⟩
end Go.Proofs.Ytodbpnigadgliaa
