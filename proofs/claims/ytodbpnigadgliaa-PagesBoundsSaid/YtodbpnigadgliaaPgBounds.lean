/- The walk of stetlaw13.PagesBounds. -/
import Derived.Test.YtodbpnigadgliaaRows
import Derived.Test.YtodbpnigadgliaaKit
import Derived.Test.YtodbpnigadgliaaPgFixed
import Derived.Test.YtodbpnigadgliaaPgLaw2
namespace Go.Proofs.Ytodbpnigadgliaa
open Go.RowKit

/-- the kind of the row that was last looked at -/
def lastOf (page : List Int) (j : Nat) : Int := if j = 0 then 0 else page.getD (j - 1) 0
theorem lastOf_succ (page : List Int) (j : Nat) (h : j < page.length) : lastOf page (j + 1) = page[j] := by simp [lastOf, h]
theorem lastOf_end (ys : List Int) (n : Nat) (h1 : 1 ≤ n) (h2 : n ≤ ys.length) : lastOf (ys.take n) n = ys.getD (n - 1) 0 := by
  unfold lastOf
  rw [if_neg (by omega)]
  simp [List.getD, List.getElem?_take, show n - 1 < n by omega]
theorem take_snoc {α : Type} (xs : List α) (j : Nat) (h : j < xs.length) : xs.take (j + 1) = xs.take j ++ [xs[j]] := List.take_succ_eq_append_getElem h

set_option maxRecDepth 100000 in
set_option maxHeartbeats 4000000 in
theorem bounds_any (xs : List Int) (h : Int) (v : Value) (w : World) (hr : Ints w w.heap.size v xs) (hh : 0 ≤ h ∧ h ≤ 255) :
    Calls Try.prog 4 #[v, .int .u8 h] w fun e w' => e = .returned (.bool true) ∧ Below w.heap.size w w' := by
  obtain ⟨A, c, rfl, l1, m1, hA⟩ := hr.shape
  have hh1 := hh.1
  have hh2 := hh.2
  obtain ⟨k, hk⟩ : ∃ k, k = min xs.length 200 := ⟨_, rfl⟩
  have hk1 : k ≤ xs.length := by omega
  have hk2 : k ≤ 200 := by omega
  have hcut := row_cut2 hr (n := 0) (m := k) (Nat.zero_le _) hk1 _ _ _ rfl
  have HK := Lib.hid hk
  simp only [Nat.sub_zero, List.drop_zero] at hcut
  obtain ⟨H, hH⟩ : ∃ H : Nat, (H : Int) = max 1 h := ⟨(max 1 h).toNat, by omega⟩
  have hH1 : 1 ≤ H := by omega
  have hH2 : H ≤ 255 := by omega
  have HH := Lib.hid hH
  clear hk hA hh hH
  go_enter Try.func4, Try.ntmps4
  go_upto_region 1 with fail
  go_cut [0] (fun v wx => Ints w w.heap.size v (xs.take k) ∧ w = wx)
  case first =>
    go_wp2
    all_goals go_meet
    · obtain rfl : k = 200 := by have := HK.out; omega
      exact ⟨hcut, rfl⟩
    · obtain rfl : k = xs.length := by have := HK.out; omega
      exact ⟨hcut, rfl⟩
  case rest =>
    obtain ⟨hys, rfl⟩ := hcut
    have hl : (xs.take k).length ≤ 200 := by simp; omega
    clear hr hcut HK
    generalize xs.take k = ys at *
    obtain ⟨A, cy, rfl, ly, my, hA⟩ := hys.shape
    clear hA
    go_upto_region 2 with fail
    go_cut [5, 6] (fun a b wx => a = .int .i64 H ∧ b = .int .i64 0 ∧ w = wx)
    case first =>
      go_wp2
      all_goals go_meet
      all_goals exact ⟨by rw [HH.out]; congr 1; omega, rfl, rfl⟩
    case rest =>
      obtain ⟨rfl, rfl, rfl⟩ := hcut
      have HM : Hid ((min (max h 1) 1000).toNat = H) := by have := HH.out; show _ = _; omega
      have hp1 : ∀ x ∈ pagesF ys H, 1 ≤ x ∧ x ≤ ys.length := pagesF_pos _ hH1 _ ys (Nat.le_refl _)
      have hp2 : (pagesF ys H).length ≤ ys.length := pagesF_len _ hH1 _ ys (Nat.le_refl _)
      obtain ⟨ps, hps⟩ : ∃ ps, pagesF ys H = ps := ⟨_, rfl⟩
      rw [hps] at hp1 hp2
      have HP : Hid (pagesF ys (min (max h 1) 1000).toNat = ps) := by show _ = _; rw [HM.out, hps]
      have HS := Lib.hid hps
      clear hp1 hps
      go_wp2_with fail
      refine (pages_ints ys h _ _ _ ps HP.out hys (Nat.le_refl _) (by omega)).mono ?_
      rintro e w1 ⟨ra, rfl, ha, b1⟩
      replace hys := hys.step b1
      have c1 := b1
      clear b1
      have hysc := hys.shape
      obtain ⟨A', cy', hv', ly', my', hAy⟩ := hysc
      injection hv' with e1 e2 e3
      subst e1 e3
      obtain ⟨Aa, ca, rfl, la, ma, hAa⟩ := ha.shape
      have HAy := Lib.hid hAy
      have HAa := Lib.hid hAa
      have HYS := Lib.hid hys
      clear hAy hAa e2 ly' my' hys
      go_wp2
      go_loop [6, 8] (fun a p => ∃ (at_ q : Nat), a = .int .i64 at_ ∧ p = .int .i64 q ∧ at_ ≤ ys.length ∧ q ≤ ps.length ∧ Hid (ps.drop q = pagesF (ys.drop at_) H)) (fun _ p => ps.length - (intOf p).toNat)
      case atStart => exact ⟨0, 0, rfl, rfl, Nat.zero_le _, Nat.zero_le _, by simp [Hid, HS.out]⟩
      case round =>
        obtain ⟨at_, q, rfl, rfl, hat, hq, HE⟩ := hrel
        by_cases hlt : q < ps.length
        · have hne : ys.drop at_ ≠ [] := by
            intro hd
            have := HE.out
            rw [hd, pagesF_nil] at this
            have := List.drop_eq_nil_iff.1 this
            omega
          have hlt2 : at_ < ys.length := by
            rcases Nat.lt_or_ge at_ ys.length with h | h
            · exact h
            · exact absurd (List.drop_eq_nil_iff.2 h) hne
          have hcons := pagesF_cons (ys.drop at_) H hH1 hne
          have hn1 := oneF_pos (ys.drop at_) H hH1 hne
          have hn2 := oneF_le (ys.drop at_) H
          rw [List.length_drop] at hn2
          have hq0 := HE.out
          rw [List.drop_eq_getElem_cons hlt, hcons, List.drop_drop] at hq0
          injection hq0 with hq1 hq2
          have hB1 := page_break (ys.drop at_) H hH1
          have hB2 := page_lines (ys.drop at_) H hH1
          have hB3 := page_keep (ys.drop at_) H hH1
          obtain ⟨b, off, rfl, _, hc⟩ := HAa.out (by rintro rfl; simp at hlt)
          have hcq := hc q hlt
          rw [hq1] at hcq
          clear hc hcons hne
          generalize hn : oneF (ys.drop at_) H = n at *
          have HB1 := Lib.hid hB1
          have HB2 := Lib.hid hB2
          have HB3 := Lib.hid hB3
          have HQ2 := Lib.hid hq2
          clear hB1 hB2 hB3 hq2 hq1 hn HE
          have hpage := row_cut2 HYS.out (n := at_) (m := at_ + n) (by omega) (by omega) _ _ _ rfl
          rw [show at_ + n - at_ = n from by omega] at hpage
          have hpl : ((ys.drop at_).take n).length = n := by simp; omega
          obtain ⟨page, hpg⟩ : ∃ page, (ys.drop at_).take n = page := ⟨_, rfl⟩
          rw [hpg] at hpage hpl
          have HPG := Lib.hid hpg
          have HPL := Lib.hid hpl
          have HPA := Lib.hid hpage
          clear hpg hpl hpage
          have t1 : decide ((n : Int) < 1) = false := by simp; omega
          have t2 : decide ((ys.length : Int) - (at_ : Int) < (n : Int)) = false := by simp; omega
          obtain ⟨A2, hA2⟩ : ∃ A2, A2 = slAddr A at_ cy 1 := ⟨_, rfl⟩
          rw [← hA2] at HPA
          go_upto_region 10 with fail
          rw [← hA2]
          clear hA2
          go_wp2
          have HPS := HPA.out.shape
          obtain ⟨A3, c3, hv3, l3, m3, hA3⟩ := HPS
          injection hv3 with e4 e5 e6
          subst e4 e6
          have HA3 := Lib.hid hA3
          clear hA3 e5 l3 HPA
          go_loop [10, 11, 12, 13] (fun a b d i => ∃ j : Nat, i = .int .i64 j ∧ j ≤ n ∧ a = .int .i64 (cnt (page.take j)) ∧ b = .int .i64 (cn1 (page.take j)) ∧ d = .int .i64 (lastOf page j)) (fun _ _ _ i => n - (intOf i).toNat)
          case atStart => exact ⟨0, rfl, Nat.zero_le _, rfl, rfl, rfl⟩
          case round =>
            obtain ⟨j, rfl, hj, rfl, rfl, rfl⟩ := hrel
            have hc1 := cnt_le (page.take j)
            have hc2 := cn1_le (page.take j)
            have hc3 : (page.take j).length ≤ j := List.length_take_le _ _
            by_cases hjn : j < n
            · have hjp : j < page.length := by rw [HPL.out]; exact hjn
              obtain ⟨b2, off2, rfl, _, hcp⟩ := HA3.out (by rintro rfl; simp at hjp)
              have hcell := hcp j hjp
              have hs1 : Hid (cnt (page.take (j + 1)) = cnt (page.take j) + if page[j] = 2 then 0 else 1) := by show _ = _; rw [take_snoc page j hjp, cnt_snoc]
              have hs2 : Hid (cn1 (page.take (j + 1)) = cn1 (page.take j) + if page[j] = 1 then 1 else 0) := by show _ = _; rw [take_snoc page j hjp, cn1_snoc]
              have hs3 : Hid (lastOf page (j + 1) = page[j]) := lastOf_succ page j hjp
              have hB : page[j] = 2 → j + 1 < n → cnt (page.take j) = 0 := by
                intro h2 h3
                have e1 : page.take j = (ys.drop at_).take j := by rw [← HPG.out, List.take_take, Nat.min_eq_left hj]
                rw [e1]
                refine HB1.out j h3 ?_
                have e2 : (ys.drop at_).getD j 0 = page[j] := by
                  have hx : j < (ys.drop at_).length := by simp; omega
                  have : page[j] = (ys.drop at_)[j] := by simp only [← HPG.out, List.getElem_take]
                  rw [this, List.getD, List.getElem?_eq_getElem hx]; rfl
                rw [e2]; exact h2
              clear hcp
              generalize cnt (page.take j) = cl at *
              generalize cn1 (page.take j) = ck at *
              generalize lastOf page j = la at *
              by_cases hz2 : page[j] = 2
              · have hs1' : Hid (cnt (page.take (j + 1)) = cl) := by show _ = _; rw [hs1.out, if_pos hz2]; rfl
                have hs2' : Hid (cn1 (page.take (j + 1)) = ck) := by show _ = _; rw [hs2.out, if_neg (by rw [hz2]; decide)]; rfl
                have hs3' : Hid (lastOf page (j + 1) = 2) := by show _ = _; rw [hs3.out, hz2]
                have hB' := hB hz2
                rw [hz2] at hcell
                clear hs1 hs2 hs3 hB hz2
                by_cases hcl : cl = 0
                · subst hcl
                  clear hB'
                  go_wp2
                  go_round
                  case rel => exact ⟨j + 1, by go_num, by omega, by rw [hs1'.out], by rw [hs2'.out], by rw [hs3'.out]⟩
                  case measure => simp [intOf]; omega
                · have hjl : ¬ j + 1 < n := fun h => hcl (hB' h)
                  have hcl' : 0 < cl := by omega
                  clear hB' hcl
                  go_wp2
                  go_round
                  case rel => exact ⟨j + 1, by go_num, by omega, by rw [hs1'.out], by rw [hs2'.out], by rw [hs3'.out]⟩
                  case measure => simp [intOf]; omega
              · have hs1' : Hid (cnt (page.take (j + 1)) = cl + 1) := by show _ = _; rw [hs1.out, if_neg hz2]
                have hz2' : (page[j] == 2) = false := by simpa using hz2
                have hz2'' : (page[j] != 2) = true := by simpa using hz2
                by_cases hz1 : page[j] = 1
                · have hs2' : Hid (cn1 (page.take (j + 1)) = ck + 1) := by show _ = _; rw [hs2.out, if_pos hz1]
                  have hs3' : Hid (lastOf page (j + 1) = 1) := by show _ = _; rw [hs3.out, hz1]
                  rw [hz1] at hcell
                  clear hs1 hs2 hs3 hB hz2 hz1 hz2' hz2''
                  go_wp2
                  go_round
                  case rel => exact ⟨j + 1, by go_num, by omega, by rw [hs1'.out]; go_num, by rw [hs2'.out]; go_num, by rw [hs3'.out]⟩
                  case measure => simp [intOf]; omega
                · have hs2' : Hid (cn1 (page.take (j + 1)) = ck) := by show _ = _; rw [hs2.out, if_neg hz1]; rfl
                  have hz1' : (page[j] == 1) = false := by simpa using hz1
                  clear hs1 hs2 hB hz2 hz1
                  generalize page[j] = z at *
                  go_wp2
                  go_round
                  case rel => exact ⟨j + 1, by go_num, by omega, by rw [hs1'.out]; go_num, by rw [hs2'.out], by rw [hs3.out]⟩
                  case measure => simp [intOf]; omega
            · obtain rfl : j = n := by omega
              have hpj : page.take j = page := List.take_of_length_le (by rw [HPL.out]; exact Nat.le_refl _)
              have hlines : cnt (page.take j) ≤ H := by rw [hpj, ← HPG.out]; exact HB2.out
              have hlast : lastOf page j = (ys.drop at_).getD (j - 1) 0 := by rw [← HPG.out]; exact lastOf_end _ _ hn1 (by simp; omega)
              have hgn : (ys.drop at_).getD j 0 = ys.getD (at_ + j) 0 := getD_drop _ _ _
              have hkp : at_ + j < ys.length → lastOf page j = 1 → ¬ ys.getD (at_ + j) 0 = 2 → cnt (page.take j) ≤ cn1 (page.take j) := by
                intro h1 h2 h3
                rw [hpj, ← HPG.out]
                exact HB3.out (by simp; omega) hn1 (by rw [← hlast]; exact h2) (by rw [hgn]; exact h3)
              clear hpj hlast hgn
              generalize cnt (page.take j) = cl at *
              generalize cn1 (page.take j) = ck at *
              generalize lastOf page j = la at *
              have HR : Hid (ps.drop (q + 1) = pagesF (ys.drop (at_ + j)) H) := HQ2.out
              have hle : at_ + j ≤ ys.length := by omega
              by_cases h1 : la = 1
              · subst h1
                by_cases h2 : at_ + j < ys.length
                · obtain ⟨b3, off3, rfl, _, hcy⟩ := HAy.out (by rintro rfl; simp at h2)
                  have hcell := hcy (at_ + j) h2
                  have hg : ys.getD (at_ + j) 0 = ys[at_ + j] := by simp [h2]
                  rw [hg] at hkp
                  clear hcy hg
                  by_cases h3 : ys[at_ + j] = 2
                  · rw [h3] at hcell
                    clear hkp h3
                    go_wp2
                    go_round
                    case rel => exact ⟨at_ + j, q + 1, by go_num, by go_num, hle, by omega, HR⟩
                    case measure => simp [intOf]; omega
                  · have h4 := hkp h2 rfl h3
                    have h3' : (ys[at_ + j] != 2) = true := by simpa using h3
                    clear hkp h3
                    generalize ys[at_ + j] = z at *
                    go_wp2
                    go_round
                    case rel => exact ⟨at_ + j, q + 1, by go_num, by go_num, hle, by omega, HR⟩
                    case measure => simp [intOf]; omega
                · clear hkp
                  go_wp2
                  go_round
                  case rel => exact ⟨at_ + j, q + 1, by go_num, by go_num, hle, by omega, HR⟩
                  case measure => simp [intOf]; omega
              · have h1' : (la == 1) = false := by simpa using h1
                clear hkp h1
                go_wp2
                go_round
                case rel => exact ⟨at_ + j, q + 1, by go_num, by go_num, hle, by omega, HR⟩
                case measure => simp [intOf]; omega
        · have hend : at_ = ys.length := by
            have h1 := HE.out
            rw [List.drop_of_length_le (by omega)] at h1
            rcases Nat.lt_or_ge at_ ys.length with h | h
            · rw [pagesF_cons (ys.drop at_) H hH1 (by intro hd; have := List.drop_eq_nil_iff.1 hd; omega)] at h1
              exact absurd h1 (by simp)
            · omega
          have hend' : ((at_ : Int) == (ys.length : Int)) = true := by simp [hend]
          clear hend HE
          go_wp2_with fail
          refine (fixed_any _).mono ?_
          rintro e w6 ⟨rfl, b6⟩
          have c6 := c1.trans (b6.mono c1.size)
          go_wp2_with fail
          go_ret
          exact ⟨rfl, c6⟩
end Go.Proofs.Ytodbpnigadgliaa
