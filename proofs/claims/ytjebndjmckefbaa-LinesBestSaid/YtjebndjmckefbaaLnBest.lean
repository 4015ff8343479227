/- The walks of stetlaw12.ahead and stetlaw12.LinesBest. -/
import Derived.Test.YtjebndjmckefbaaRows
import Derived.Test.YtjebndjmckefbaaKit
import Derived.Test.YtjebndjmckefbaaLnFixed
namespace Go.Proofs.Ytjebndjmckefbaa
open Go.RowKit

theorem aheadF_end (ps qs : List Int) (k : Nat) (h : ¬ (k < ps.length ∧ k < qs.length)) : Ln.aheadF (ps.drop k) (qs.drop k) = false := by
  by_cases h1 : k < ps.length
  · have h2 : qs.drop k = [] := List.drop_of_length_le (by omega)
    rw [h2]
    cases ps.drop k <;> rfl
  · rw [List.drop_of_length_le (show ps.length ≤ k by omega)]
    rfl

set_option maxHeartbeats 1000000 in
theorem ahead_any (ps qs : List Int) (v1 v2 : Value) (B1 B2 : Nat) (w : World) (h1 : Ints w B1 v1 ps) (h2 : Ints w B2 v2 qs) :
    Calls Try.prog 14 #[v1, v2] w fun e w' => e = .returned (.bool (Ln.aheadF ps qs)) ∧ Below w.heap.size w w' := by
  obtain ⟨A1, c1, rfl, l1, m1, hA1⟩ := h1.shape
  obtain ⟨A2, c2, rfl, l2, m2, hA2⟩ := h2.shape
  have HA1 := Lib.hid hA1
  have HA2 := Lib.hid hA2
  clear h1 h2 hA1 hA2
  go_enter Try.func14, Try.ntmps14
  go_wp2
  go_loopw [5] (fun i wr => ∃ k : Nat, k ≤ ps.length ∧ i = .int .i64 k ∧ Hid (Ln.aheadF (ps.drop k) (qs.drop k) = Ln.aheadF ps qs) ∧ ∃ n, wr = w.drewN n) (fun i _ => ps.length - (intOf i).toNat)
  case atStart => exact ⟨0, Nat.zero_le _, rfl, rfl, 0, rfl⟩
  case round =>
    obtain ⟨k, hk, rfl, HE, n, rfl⟩ := hrel
    by_cases hlt : k < ps.length
    · by_cases hlt2 : k < qs.length
      · obtain ⟨b1, o1, rfl, _, hc1⟩ := HA1.out (by rintro rfl; simp at hlt)
        obtain ⟨b2, o2, rfl, _, hc2⟩ := HA2.out (by rintro rfl; simp at hlt2)
        have hk1 := hc1 k hlt
        have hk2 := hc2 k hlt2
        have HS : Hid (Ln.aheadF (ps.drop k) (qs.drop k) = if ps[k] = qs[k] then Ln.aheadF (ps.drop (k + 1)) (qs.drop (k + 1)) else decide (qs[k] < ps[k])) := by
          show _ = _
          rw [List.drop_eq_getElem_cons hlt, List.drop_eq_getElem_cons hlt2]; rfl
        have hb1 : (0 : Int) ≤ (k : Int) := by omega
        have hb2 : (k : Int) < (ps.length : Int) := by omega
        have hb3 : (k : Int) < (qs.length : Int) := by omega
        clear hc1 hc2
        generalize ps[k] = x at *
        generalize qs[k] = y at *
        by_cases he : x = y
        · subst he
          have hne : (x != x) = false := by simp
          go_wp2
          go_quiet (fail)
          go_wp2
          go_roundw
          case rel => exact ⟨k + 1, by omega, by go_num, by show _ = _; rw [← HE.out, HS.out]; simp, by first | exact drewN_ex1 _ _ | exact drewN_ex2 _ _ _⟩
          case measure => simp [intOf]; omega
        · have hne : (x != y) = true := by simpa using he
          have HE2 : Hid (Ln.aheadF ps qs = decide (y < x)) := by show _ = _; rw [← HE.out, HS.out, if_neg he]
          clear HE HS he
          go_wp2
          go_quiet (fail)
          go_wp2
          go_quiet (fail)
          go_wp2
          go_ret
          exact ⟨ret_bool HE2.out.symm, by first | exact below_of_drewN _ | exact below_drewN (below_of_drewN _) _ | exact below_drewN (below_drewN (below_of_drewN _) _) _⟩
      · have HE2 : Hid (Ln.aheadF ps qs = false) := by show _ = _; rw [← HE.out, aheadF_end ps qs k (by omega)]
        go_wp2
        go_ret
        exact ⟨ret_bool HE2.out.symm, below_of_drewN _⟩
    · have HE2 : Hid (Ln.aheadF ps qs = false) := by show _ = _; rw [← HE.out, aheadF_end ps qs k (by omega)]
      go_wp2
      go_ret
      exact ⟨ret_bool HE2.out.symm, below_of_drewN _⟩

set_option maxRecDepth 100000 in
set_option maxHeartbeats 4000000 in
theorem best_any (xs : List Int) (h : Int) (v : Value) (w : World) (hr : Ints w w.heap.size v xs) :
    Calls Try.prog 4 #[v, .int .i64 h] w fun e w' => e = .returned (.bool true) ∧ Below w.heap.size w w' := by
  obtain ⟨i0, hi0, hz0, hz1, hz2⟩ := info_parts intInfo
  obtain ⟨A, c, rfl, l1, m1, hA⟩ := hr.shape
  obtain ⟨k, hk⟩ : ∃ k, k = min xs.length 9 := ⟨_, rfl⟩
  have hk1 : k ≤ xs.length := by omega
  have hk2 : k ≤ 9 := by omega
  have hcut := row_cut2 hr (n := 0) (m := k) (Nat.zero_le _) hk1 _ _ _ rfl
  have HK := Lib.hid hk
  simp only [Nat.sub_zero, List.drop_zero] at hcut
  clear hk hA
  go_enter Try.func4, Try.ntmps4
  go_upto_region 1 with fail
  go_cut [0] (fun v wx => Ints w w.heap.size v (xs.take k) ∧ w = wx)
  case first =>
    go_wp2
    all_goals go_meet
    · obtain rfl : k = 9 := by have := HK.out; omega
      exact ⟨hcut, rfl⟩
    · obtain rfl : k = xs.length := by have := HK.out; omega
      exact ⟨hcut, rfl⟩
  case rest =>
    obtain ⟨hys, rfl⟩ := hcut
    have hl : (xs.take k).length ≤ 9 := by simp; omega
    clear hr hcut HK
    generalize xs.take k = ys at *
    obtain ⟨M, hM⟩ : ∃ M : Nat, M = (min (max h 1) 1000).toNat := ⟨_, rfl⟩
    obtain ⟨ps, hps⟩ : ∃ ps, Ln.linesF M (ys.map Ln.clip) = ps := ⟨_, rfl⟩
    obtain ⟨cc, hcc⟩ : ∃ cc, (Ln.best M (ys.map Ln.clip)).1 = cc := ⟨_, rfl⟩
    have hcost := Ln.costF_lines M _ (ys.map Ln.clip) (Nat.le_refl _)
    have hll := Ln.lines_len M _ (ys.map Ln.clip) (Nat.le_refl _)
    have hnil := Ln.lines_nil M (ys.map Ln.clip)
    have hge := fun l c h => Ln.costF_ge M l (ys.map Ln.clip) c h
    have hlex := fun l h => Ln.costF_lex M l (ys.map Ln.clip) h
    rw [hps, hcc] at hcost
    simp only [hps, hcc] at hge hlex hnil
    rw [hps, List.length_map] at hll
    have hnil2 : ps = [] ↔ ys = [] := by rw [hnil]; simp
    rw [hM] at hps hcost hge hlex
    have HP := Lib.hid hps
    have HC := Lib.hid hcost
    have HG := Lib.hid hge
    have HX := Lib.hid hlex
    clear hps hcc hcost hge hlex hnil hM
    obtain ⟨A, cy, rfl, ly, my, hA⟩ := hys.shape
    clear hA
    go_wp2_with fail
    refine (Break_ints ys h _ _ _ ps HP.out hys (Nat.le_refl _) (by omega)).mono ?_
    rintro e w1 ⟨ra, rfl, ha, b1⟩
    replace hys := hys.step b1
    go_wp2_with fail
    refine (Cost_ok ys ps h _ _ _ _ _ cc HC.out hys ha (by omega) (by omega)).mono ?_
    rintro e w2 ⟨rfl, b2⟩
    replace hys := hys.step b2
    replace ha := ha.step b2
    have c2 := b1.trans (b2.mono b1.size)
    clear b1 b2
    obtain ⟨Aa, ca, rfl, la, ma, hAa⟩ := ha.shape
    clear hAa
    go_wp2
    go_loopw [10] (fun i wr => ∃ j : Nat, j ≤ 256 ∧ i = .int .i64 j ∧ Below w2.heap.size w2 wr) (fun i _ => 256 - (intOf i).toNat)
    case atStart => exact ⟨0, Nat.zero_le _, rfl, Below.refl _ _⟩
    case round =>
      obtain ⟨j, hj, rfl, hbr⟩ := hrel
      by_cases hgo : j < 256 ∧ 0 < ys.length
      · obtain ⟨hgo1, hgo2⟩ := hgo
        go_upto_block 4 with fail
        go_loopw [11, 12, 13] (fun l o i wx => ∃ (m : Nat) (outs : List Int) (x : Int), m + 1 ≤ ys.length ∧ i = .int .i64 m ∧ outs.length ≤ m ∧ 0 ≤ x ∧ x ≤ m + 1 ∧ o = .int .i64 x ∧ wx.ownsRow w2.heap.size 3 1 l outs.length (outs.map (.int .i64)) ∧ Below w2.heap.size w2 wx) (fun _ _ i _ => ys.length - (intOf i).toNat)
        case atStart => exact ⟨0, [], 1, by omega, rfl, by simp, by omega, by omega, rfl, World.ownsRow_made _ #[] 0 hbr.size (by decide) rfl, hbr.alloc hbr.size _⟩
        case round =>
          obtain ⟨m, outs, x, hm, rfl, hlo, hx0, hx1, rfl, hown, hbx⟩ := hrel
          by_cases hlt : m + 1 < ys.length
          · have hlt2 : (m : Int) < (ys.length : Int) - 1 := by omega
            go_upto_region 14 with fail
            go_cut [61] (fun b wy => ∃ y : Bool, b = .bool y ∧ wr = wy)
            case first =>
              go_wp2
              go_meet
              exact ⟨_, rfl, rfl⟩
            case rest =>
              obtain ⟨y, rfl, rfl⟩ := hcut
              cases y
              · go_wp2
                go_roundw
                case rel => exact ⟨m + 1, outs, x + 1, by omega, by go_num, by omega, by omega, by omega, by go_num, hown, hbx⟩
                case measure => simp [intOf]; omega
              · go_wp2_with (at_builtin; refine wpList_app1 rfl (.tmp 62) (.tmp 64) 22 rfl w2.heap.size 3 i0 (.int .i64 0) 8 Try.underlying22 hi0 hz0 hz1 hz2 rfl _ _ _ (.int .i64 x) rfl rfl rfl hown hbx.size (by simp only [maxLen]; omega) (by omega) ?_; intro v' w3 hown' hbel' _)
                go_roundw
                case rel => exact ⟨m + 1, outs ++ [x], 1, by omega, by go_num, by simp; omega, by omega, by omega, by go_num, by simpa using hown', hbx.trans hbel'⟩
                case measure => simp [intOf]; omega
          · have hlt2 : ¬ (m : Int) < (ys.length : Int) - 1 := by omega
            go_wp2_with (at_builtin; refine wpList_app1 rfl (.tmp 68) (.tmp 70) 22 rfl w2.heap.size 3 i0 (.int .i64 0) 8 Try.underlying22 hi0 hz0 hz1 hz2 rfl _ _ _ (.int .i64 x) rfl rfl rfl hown hbx.size (by simp only [maxLen]; omega) (by omega) ?_; intro v' w3 hown' hbel' _)
            have hl3 : Ints w3 w3.heap.size v' (outs ++ [x]) := Row.own (base := w2.heap.size) (e := 3) (n := outs.length + 1) (by simpa using hown')
            have b3 := hbx.trans hbel'
            have hys3 := hys.step b3
            have ha3 := ha.step b3
            have hl4 : (outs ++ [x]).length ≤ 100000 := by simp; omega
            have HAF : Hid (Ln.costF (min (max h 1) 1000).toNat (ys.map Ln.clip) (outs ++ [x]) = some cc → Ln.aheadF (outs ++ [x]) ps = false) := Lib.hid (HX.out _)
            clear hown hown' hbel' hbx
            generalize outs ++ [x] = zs at *
            rcases hcf : Ln.costF (min (max h 1) 1000).toNat (ys.map Ln.clip) zs with _ | c4
            · go_wp2_with fail
              refine (Cost_no ys zs h _ _ _ _ _ hcf hys3 hl3 (by omega) hl4).mono ?_
              rintro e w4 ⟨rfl, b4⟩
              have b5 := b3.trans (b4.mono b3.size)
              clear HAF hcf HG HX HP HC hys hys3 ha ha3 hl3 b3 b4
              go_wp2
              go_roundw
              case rel => exact ⟨j + 1, by omega, by go_num, b5⟩
              case measure => simp [intOf]; omega
            · have hg1 : ¬ (c4 : Int) < (cc : Int) := by have := HG.out _ _ hcf; omega
              go_wp2_with fail
              refine (Cost_ok ys zs h _ _ _ _ _ c4 hcf hys3 hl3 (by omega) hl4).mono ?_
              rintro e w4 ⟨rfl, b4⟩
              have b5 := b3.trans (b4.mono b3.size)
              replace hl3 := hl3.step b4
              replace ha3 := ha3.step b4
              by_cases hce : c4 = cc
              · subst hce
                have HAE := Lib.hid (HAF.out hcf)
                clear HAF hcf HG HX HP HC hys hys3 ha b3 b4
                obtain ⟨Az, cz, rfl, lz, mz, hAz⟩ := hl3.shape
                clear hAz
                go_wp2_with fail
                refine (ahead_any zs ps _ _ _ _ _ hl3 ha3).mono ?_
                rintro e w5 ⟨rfl, b6⟩
                rw [HAE.out]
                have b7 := b5.trans (b6.mono b5.size)
                clear b5 b6
                go_wp2
                go_roundw
                case rel => exact ⟨j + 1, by omega, by go_num, b7⟩
                case measure => simp [intOf]; omega
              · clear HAF hcf HG HX HP HC hys hys3 ha ha3 hl3 b3 b4
                have hce2 : ¬ ((c4 : Int) = (cc : Int)) := by omega
                have hce3 : ((c4 : Int) == (cc : Int)) = false := by simpa using hce2
                clear hce2
                go_wp2
                go_roundw
                case rel => exact ⟨j + 1, by omega, by go_num, b5⟩
                case measure => simp [intOf]; omega
      · have cr := c2.trans (hbr.mono c2.size)
        by_cases h0 : ys = []
        · have e0 := hnil2.2 h0
          subst e0 h0
          clear hnil2 hgo
          by_cases hj2 : j < 256
          all_goals
            go_wp2_with fail
            refine (fixed_any _).mono ?_
            rintro e w6 ⟨rfl, b6⟩
            have c6 := cr.trans (b6.mono cr.size)
            go_wp2_with fail
            go_ret
            exact ⟨rfl, c6⟩
        · have h' : ¬ ps = [] := fun e => h0 (hnil2.1 e)
          have h1 : 0 < ys.length := List.length_pos_iff.2 h0
          have h2 : 0 < ps.length := List.length_pos_iff.2 h'
          have hj3 : ¬ j < 256 := fun h => hgo ⟨h, h1⟩
          clear hnil2 hgo h0 h'
          go_wp2_with fail
          refine (fixed_any _).mono ?_
          rintro e w6 ⟨rfl, b6⟩
          have c6 := cr.trans (b6.mono cr.size)
          go_wp2_with fail
          go_ret
          exact ⟨rfl, c6⟩
end Go.Proofs.Ytjebndjmckefbaa
