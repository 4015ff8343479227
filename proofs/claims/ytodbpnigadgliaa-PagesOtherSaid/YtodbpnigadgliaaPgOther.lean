/- The walk of stetlaw13.PagesOther. -/
import Derived.Test.YtodbpnigadgliaaRows
import Derived.Test.YtodbpnigadgliaaKit
import Derived.Test.YtodbpnigadgliaaPgFixed
import Derived.Test.YtodbpnigadgliaaPgLaw3
namespace Go.Proofs.Ytodbpnigadgliaa
open Go.RowKit

set_option maxHeartbeats 4000000 in
theorem other_any (xs : List Int) (h : Int) (v : Value) (w : World) (hr : Ints w w.heap.size v xs) :
    Calls Try.prog 7 #[v, .int .i64 h] w fun e w' => e = .returned (.bool true) ∧ Below w.heap.size w w' := by
  obtain ⟨i0, hi0, hz0, hz1, hz2⟩ := info_parts intInfo
  obtain ⟨A, c, rfl, l1, m1, hA⟩ := hr.shape
  obtain ⟨k, hk⟩ : ∃ k, k = min xs.length 200 := ⟨_, rfl⟩
  have hk1 : k ≤ xs.length := by omega
  have hk2 : k ≤ 200 := by omega
  have hcut := row_cut2 hr (n := 0) (m := k) (Nat.zero_le _) hk1 _ _ _ rfl
  have HK := Lib.hid hk
  simp only [Nat.sub_zero, List.drop_zero] at hcut
  clear hk hA
  go_enter Try.func7, Try.ntmps7
  go_upto_region 1 with fail
  go_cut [0] (fun v wx => Ints w w.heap.size v (xs.take k) ∧ w = wx)
  case first =>
    go_wp2
    all_goals go_meet
    · obtain rfl : k = 200 := by have := HK.out; omega
      exact ⟨hcut, rfl⟩
    · obtain rfl : k = xs.length := by have := HK.out; omega
      exact ⟨hcut, rfl⟩
  case rest =>
    obtain ⟨hys, rfl⟩ := hcut
    have hl : (xs.take k).length ≤ 200 := by simp; omega
    clear hr hcut HK
    generalize xs.take k = ys at *
    obtain ⟨A, cy, rfl, ly, my, hA⟩ := hys.shape
    have HA := Lib.hid hA
    clear hA
    go_wp2
    go_loopw [5, 6, 7] (fun o n i wr => ∃ j : Nat, j ≤ ys.length ∧ i = .int .i64 j ∧ n = .int .i64 (cnt (ys.take j)) ∧ wr.ownsRow w.heap.size 3 1 o j (((ys.take j).map norm).map (.int .i64)) ∧ Below w.heap.size w wr) (fun _ _ i _ => ys.length - (intOf i).toNat)
    case atStart => exact ⟨0, Nat.zero_le _, rfl, rfl, World.ownsRow_made _ #[] 0 (Nat.le_refl _) (by decide) rfl, (Below.refl _ _).alloc (Nat.le_refl _) _⟩
    case round =>
      obtain ⟨j, hj, rfl, rfl, hown, hbel⟩ := hrel
      have hc1 := cnt_le (ys.take j)
      have hc3 : (ys.take j).length ≤ j := List.length_take_le _ _
      by_cases hlt : j < ys.length
      · obtain ⟨b, off, rfl, hb, hcy⟩ := HA.out (by rintro rfl; simp at hlt)
        have hcell := (hbel.cell (p := ⟨b, off + j, none⟩) hb).trans (hcy j hlt)
        have htk : ys.take (j + 1) = ys.take j ++ [ys[j]] := List.take_succ_eq_append_getElem hlt
        have hs1 : Hid (cnt (ys.take (j + 1)) = cnt (ys.take j) + if ys[j] = 2 then 0 else 1) := by show _ = _; rw [htk, cnt_snoc]
        have hs2 : Hid (((ys.take (j + 1)).map norm).map (Value.int .i64) = ((ys.take j).map norm).map (Value.int .i64) ++ [.int .i64 (norm ys[j])]) := by show _ = _; rw [htk, List.map_append, List.map_append]; rfl
        clear hcy htk
        generalize cnt (ys.take j) = cl at *
        generalize ((ys.take j).map norm).map (Value.int .i64) = outs at *
        by_cases h1 : ys[j] = 1
        · have hs1' : Hid (cnt (ys.take (j + 1)) = cl + 1) := by show _ = _; rw [hs1.out, if_neg (by rw [h1]; decide)]
          have hs2' : Hid (((ys.take (j + 1)).map norm).map (Value.int .i64) = outs ++ [.int .i64 1]) := by show _ = _; rw [hs2.out, h1]; rfl
          rw [h1] at hcell
          clear hs1 hs2 h1
          go_wp2_with (at_builtin; refine wpList_app1 rfl (.tmp 38) (.tmp 40) 22 rfl w.heap.size 3 i0 (.int .i64 0) 8 Try.underlying22 hi0 hz0 hz1 hz2 rfl _ _ _ (.int .i64 1) rfl rfl rfl hown hbel.size (by simp only [maxLen]; omega) (by omega) ?_; intro v' w1 hown' hbel' _)
          go_roundw
          case rel => exact ⟨j + 1, by omega, by go_num, by rw [hs1'.out]; go_num, by rw [hs2'.out]; exact hown', hbel.trans hbel'⟩
          case measure => simp [intOf]; omega
        · by_cases h2 : ys[j] = 2
          · have hs1' : Hid (cnt (ys.take (j + 1)) = cl) := by show _ = _; rw [hs1.out, if_pos h2]; rfl
            have hs2' : Hid (((ys.take (j + 1)).map norm).map (Value.int .i64) = outs ++ [.int .i64 2]) := by show _ = _; rw [hs2.out, h2]; rfl
            rw [h2] at hcell
            clear hs1 hs2 h1 h2
            go_wp2_with (at_builtin; refine wpList_app1 rfl (.tmp 38) (.tmp 40) 22 rfl w.heap.size 3 i0 (.int .i64 0) 8 Try.underlying22 hi0 hz0 hz1 hz2 rfl _ _ _ (.int .i64 2) rfl rfl rfl hown hbel.size (by simp only [maxLen]; omega) (by omega) ?_; intro v' w1 hown' hbel' _)
            go_roundw
            case rel => exact ⟨j + 1, by omega, by go_num, by rw [hs1'.out], by rw [hs2'.out]; exact hown', hbel.trans hbel'⟩
            case measure => simp [intOf]; omega
          · have hs1' : Hid (cnt (ys.take (j + 1)) = cl + 1) := by show _ = _; rw [hs1.out, if_neg h2]
            have hs2' : Hid (((ys.take (j + 1)).map norm).map (Value.int .i64) = outs ++ [.int .i64 0]) := by
              show _ = _
              rw [hs2.out, show norm ys[j] = 0 from by unfold norm; rw [if_neg (by omega)]]
            have t1 : (ys[j] != 1) = true := by simpa using h1
            have t2 : (ys[j] != 2) = true := by simpa using h2
            clear hs1 hs2 h1 h2
            generalize ys[j] = z at *
            go_wp2_with (at_builtin; refine wpList_app1 rfl (.tmp 38) (.tmp 40) 22 rfl w.heap.size 3 i0 (.int .i64 0) 8 Try.underlying22 hi0 hz0 hz1 hz2 rfl _ _ _ (.int .i64 0) rfl rfl rfl hown hbel.size (by simp only [maxLen]; omega) (by omega) ?_; intro v' w1 hown' hbel' _)
            go_roundw
            case rel => exact ⟨j + 1, by omega, by go_num, by rw [hs1'.out]; go_num, by rw [hs2'.out]; exact hown', hbel.trans hbel'⟩
            case measure => simp [intOf]; omega
      · obtain rfl : j = ys.length := by omega
        rw [List.take_length] at hown hc1 hc3 ⊢
        have hrow := Row.own hown
        have hys2 := hys.below hbel (Nat.le_refl _)
        obtain ⟨m, hm⟩ : ∃ m : Nat, m = (min (max h 1) 1000).toNat := ⟨_, rfl⟩
        have hm1 : 1 ≤ m := by omega
        have hm2 : m ≤ 1000 := by omega
        have hen := pages_enough m hm1 _ ys (Nat.le_refl _)
        have hple := pagesF_len m hm1 _ ys (Nat.le_refl _)
        have hnm := pagesF_norm m hm1 _ ys (Nat.le_refl _)
        obtain ⟨ps, hps⟩ : ∃ ps, pagesF ys m = ps := ⟨_, rfl⟩
        rw [hps] at hen hple hnm
        have HP1 : Hid (pagesF ys (min (max h 1) 1000).toNat = ps) := by rw [← hm]; exact hps
        have HP2 : Hid (pagesF (ys.map norm) (min (max h 1) 1000).toNat = ps) := by rw [← hm]; exact hnm
        have HM := Lib.hid hm
        clear hps hnm hm hown hys
        have hbs := hbel.size
        generalize hcl : cnt ys = cl at *
        clear hcl
        go_wp2_with fail
        refine (pages_ints ys h _ _ _ ps HP1.out hys2 hbs (by omega)).mono ?_
        rintro e w1 ⟨ra, rfl, ha, b1⟩
        have hrow1 := hrow.step b1
        have c1 := hbel.trans (b1.mono hbs)
        clear b1 hrow hys2 hbel hbs
        go_wp2_with fail
        refine (pages_ints (ys.map norm) h _ _ _ ps HP2.out hrow1 (Nat.le_refl _) (by simp; omega)).mono ?_
        rintro e w2 ⟨rb, rfl, hb, b2⟩
        have ha2 := ha.step b2
        have c2 := c1.trans (b2.mono c1.size)
        clear b2 ha hrow1 c1
        obtain ⟨Aa, ca, rfl, la, ma, _⟩ := ha2.shape
        go_upto_region 13 with fail
        go_cut [11] (fun v wx => v = .int .i64 m ∧ w2 = wx)
        case first =>
          go_wp2
          all_goals go_meet
          all_goals exact ⟨by congr 1; have := HM.out; omega, rfl⟩
        case rest =>
          obtain ⟨rfl, rfl⟩ := hcut
          have t1 : ((ps.length : Int) * (m : Int)) = ((ps.length * m : Nat) : Int) := by push_cast; rfl
          have t2 : ps.length * m ≤ 200000 := Nat.le_trans (Nat.mul_le_mul (Nat.le_trans hple hl) hm2) (by decide)
          have t3 : (cl : Int) ≤ (ps.length : Int) * (m : Int) := by rw [t1]; omega
          have t4 : (ps.length : Int) * (m : Int) ≤ 200000 := by rw [t1]; omega
          have t5 : (0 : Int) ≤ (ps.length : Int) * (m : Int) := by rw [t1]; omega
          clear t1
          go_wp2_with fail
          refine (rInts_below ps _ _ _ _ _ ha2 hb).mono ?_
          rintro e w3 ⟨rfl, b3⟩
          have c3 := c2.trans (b3.mono c2.size)
          go_wp2_with fail
          refine (fixed_any _).mono ?_
          rintro e w6 ⟨rfl, b6⟩
          have c6 := c3.trans (b6.mono c3.size)
          go_wp2_with fail
          go_ret
          exact ⟨rfl, c6⟩
end Go.Proofs.Ytodbpnigadgliaa
