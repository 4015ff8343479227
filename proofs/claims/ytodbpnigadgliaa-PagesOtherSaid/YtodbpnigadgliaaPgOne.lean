/- The walk of pages.one. -/
import Derived.Test.YtodbpnigadgliaaRows
import Derived.Test.YtodbpnigadgliaaPgPl
import Derived.Test.YtodbpnigadgliaaKit
namespace Go.Proofs.Ytodbpnigadgliaa
open Go.RowKit

set_option maxHeartbeats 400000 in
theorem one_any (b off cap : Nat) (xs : List Int) (h : Nat) (w : World) (h1 : 1 ≤ h) (h2 : h ≤ 1000) (hbig : xs.length ≤ 9223372036854775807)
    (hc : ∀ j, j < xs.length → w.cell? ⟨b, off + j, none⟩ = some (.int .i64 (xs.getD j 0))) :
    Calls Try.prog 14 #[.slice (some ⟨b, off, none⟩) xs.length cap, .int .i64 h] w fun e w' => e = .returned (.int .i64 (oneF xs h)) ∧ w = w' := by
  have HC := Lib.hid hc
  clear hc
  go_enter Try.func14, Try.ntmps14
  go_wp2
  go_step3
  go_upto_block 0 with fail
  go_cut [5] (fun n wx => n = .int .i64 (nb xs) ∧ w = wx)
  case first =>
    go_wp2
    go_loop [5] (fun n => ∃ k : Nat, k ≤ xs.length ∧ n = .int .i64 k ∧ k + nb (xs.drop k) = nb xs) (fun n => xs.length - (intOf n).toNat)
    case atStart => exact ⟨0, Nat.zero_le _, rfl, by simp⟩
    case round =>
      obtain ⟨k, hk, rfl, hnb⟩ := hrel
      have Hnb := Lib.hid hnb
      clear hnb
      by_cases hlt : k < xs.length
      · have hcell := HC.out k hlt
        by_cases hb : xs.getD k 0 = 2
        · rw [hb] at hcell
          have Hb := Lib.hid hb
          clear hb
          go_wp2
          go_round
          case rel => exact ⟨k + 1, by omega, by go_num, by rw [← Hnb.out, nb_yes xs k hlt Hb.out]; omega⟩
          case measure => simp [intOf]; omega
        · have hb' : (xs.getD k 0 == 2) = false := by simpa using hb
          have HE : Hid (k = nb xs) := by rw [← Hnb.out, nb_no xs k hlt hb]; rfl
          clear hb Hnb
          generalize xs.getD k 0 = z at *
          go_wp2
          go_meet
          exact ⟨by rw [← HE.out], rfl⟩
      · have HE : Hid (k = nb xs) := by rw [← Hnb.out, nb_end xs k hlt]; rfl
        clear Hnb
        go_wp2
        go_meet
        exact ⟨by rw [← HE.out], rfl⟩
  case rest =>
    obtain ⟨rfl, rfl⟩ := hcut
    have hf := nb_le xs
    generalize hfe : nb xs = f at *
    have HF := Lib.hid hfe
    clear hfe
    go_wp2
    go_step3
    go_upto_block 2 with fail
    go_cut [5, 7] (fun n l wx => ∃ m k : Nat, n = .int .i64 m ∧ l = .int .i64 k ∧ m ≤ xs.length ∧ f ≤ m ∧ k ≤ h ∧ (Hid (m = f + (tk h (xs.drop f) 0).1 ∧ k = (tk h (xs.drop f) 0).2)) ∧ w = wx)
    case first =>
      go_wp2
      go_loop [5, 7] (fun n l => ∃ m k : Nat, n = .int .i64 m ∧ l = .int .i64 k ∧ m ≤ xs.length ∧ f ≤ m ∧ k ≤ h ∧ Hid (m + (tk h (xs.drop m) k).1 = f + (tk h (xs.drop f) 0).1 ∧ (tk h (xs.drop m) k).2 = (tk h (xs.drop f) 0).2)) (fun n _ => xs.length - (intOf n).toNat)
      case atStart => exact ⟨f, 0, rfl, rfl, hf, Nat.le_refl _, Nat.zero_le _, rfl, rfl⟩
      case round =>
        obtain ⟨m, k, rfl, rfl, hm, hfm, hk, H⟩ := hrel
        by_cases hlt : m < xs.length
        · have hcell := HC.out m hlt
          by_cases hb : xs.getD m 0 = 2
          · rw [hb] at hcell
            have HE : Hid (m + 1 = f + (tk h (xs.drop f) 0).1 ∧ k = (tk h (xs.drop f) 0).2) := by
              have := H.out; rw [tk_brk h xs m k hlt hb] at this; exact this
            clear hb H
            go_wp2
            go_meet
            exact ⟨m + 1, k, by go_num, rfl, by omega, by omega, hk, HE, rfl⟩
          · have hb' : (xs.getD m 0 == 2) = false := by simpa using hb
            by_cases hl : k = h
            · have HE : Hid (m = f + (tk h (xs.drop f) 0).1 ∧ k = (tk h (xs.drop f) 0).2) := by
                have := H.out; rw [tk_full h xs m k hlt hb hl] at this; exact this
              have hl' : ((k : Int) == (h : Int)) = true := by simp [hl]
              clear hb H hl
              generalize xs.getD m 0 = z at *
              go_wp2
              go_meet
              exact ⟨m, k, by go_num, rfl, by omega, by omega, hk, HE, rfl⟩
            · have HE : Hid ((m + 1) + (tk h (xs.drop (m + 1)) (k + 1)).1 = f + (tk h (xs.drop f) 0).1 ∧ (tk h (xs.drop (m + 1)) (k + 1)).2 = (tk h (xs.drop f) 0).2) := by
                have := H.out; rw [tk_on h xs m k hlt hb hl] at this; exact ⟨by omega, this.2⟩
              have hl' : ((k : Int) == (h : Int)) = false := by simp; omega
              have hlt2 : k < h := by omega
              clear hb H hl
              generalize xs.getD m 0 = z at *
              go_wp2
              go_round
              case rel => exact ⟨m + 1, k + 1, by go_num, by go_num, by omega, by omega, by omega, HE⟩
              case measure => simp [intOf]; omega
        · have HE : Hid (m = f + (tk h (xs.drop f) 0).1 ∧ k = (tk h (xs.drop f) 0).2) := by
            have := H.out; rw [tk_end h xs m k hlt] at this; exact this
          clear H
          go_wp2
          go_meet
          exact ⟨m, k, rfl, rfl, by omega, by omega, hk, HE, rfl⟩
    case rest =>
      obtain ⟨m, k, rfl, rfl, hm, hfm, hk, HE, rfl⟩ := hcut
      have hone : Hid (oneF xs h = if k < h ∨ m = xs.length ∨ (f < m ∧ xs.getD (m - 1) 0 = 2) ∨ xs.getD m 0 = 2 then m else if kb xs f m = f then m else kb xs f m) := by
        exact oneF_at HF.out HE.out
      clear HE
      by_cases hA : k < h
      · go_wp2
        try rw [Exit.noGoto_ret]
        go_ret
        exact ⟨ret_nat (by rw [hone.out, if_pos (.inl hA)]), rfl⟩
      by_cases hB : m = xs.length
      · have HB : Hid (m = xs.length) := hB
        have hB' : ((m : Int) == (xs.length : Int)) = true := by simp [hB]
        clear hB
        go_wp2
        try rw [Exit.noGoto_ret]
        go_ret
        exact ⟨ret_nat (by rw [hone.out, if_pos (.inr (.inl HB.out))]), rfl⟩
      have hB' : ((m : Int) == (xs.length : Int)) = false := by simp; omega
      have hm2 : m < xs.length := by omega
      have hcm := HC.out m hm2
      by_cases hC : f < m ∧ xs.getD (m - 1) 0 = 2
      · have hcm1 := HC.out (m - 1) (by omega)
        have HC1 : Hid _ := hC
        rw [hC.2] at hcm1
        have hC1 := hC.1
        clear hC
        go_wp2
        try rw [Exit.noGoto_ret]
        go_ret
        exact ⟨ret_nat (by rw [hone.out, if_pos (.inr (.inr (.inl HC1.out)))]), rfl⟩
      have hD : ¬ (k < h ∨ m = xs.length ∨ (f < m ∧ xs.getD (m - 1) 0 = 2)) := by
        rintro (c | c | c)
        · exact hA c
        · exact hB c
        · exact hC c
      have HD := Lib.hid hD
      clear hD hB
      by_cases hE : xs.getD m 0 = 2
      · rw [hE] at hcm
        have HE' := Lib.hid hE
        clear hE
        by_cases hfm : f < m
        · have hcm1 := HC.out (m - 1) (by omega)
          have hC' : (xs.getD (m - 1) 0 == 2) = false := by simpa using fun h => hC ⟨hfm, h⟩
          clear hC
          generalize xs.getD (m - 1) 0 = z at *
          go_wp2
          try rw [Exit.noGoto_ret]
          go_ret
          exact ⟨ret_nat (by rw [hone.out, if_pos (.inr (.inr (.inr HE'.out)))]), rfl⟩
        · clear hC
          go_wp2
          try rw [Exit.noGoto_ret]
          go_ret
          exact ⟨ret_nat (by rw [hone.out, if_pos (.inr (.inr (.inr HE'.out)))]), rfl⟩
      have hE' : (xs.getD m 0 == 2) = false := by simpa using hE
      have hres : Hid (oneF xs h = if kb xs f m = f then m else kb xs f m) := by
        have hn : ¬ (k < h ∨ m = xs.length ∨ (f < m ∧ xs.getD (m - 1) 0 = 2) ∨ xs.getD m 0 = 2) := by
          rintro (c | c | c | c)
          · exact hA c
          · exact HD.out (.inr (.inl c))
          · exact hC c
          · exact hE c
        show oneF xs h = _
        rw [hone.out, if_neg hn]
      clear hone HD
      by_cases hfm' : f < m
      · have hcm1 := HC.out (m - 1) (by omega)
        have hC' : (xs.getD (m - 1) 0 == 2) = false := by simpa using fun h => hC ⟨hfm', h⟩
        clear hC hE
        generalize xs.getD (m - 1) 0 = z at *
        generalize xs.getD m 0 = z2 at *
        go_wp2
        go_loop [8] (fun e => ∃ j : Nat, e = .int .i64 j ∧ f ≤ j ∧ j ≤ m ∧ Hid (kb xs f j = kb xs f m)) (fun e => (intOf e).toNat)
        case atStart => exact ⟨m, rfl, hfm, Nat.le_refl _, rfl⟩
        case round =>
          obtain ⟨j, rfl, hfj, hjm, HJ⟩ := hrel
          by_cases hgo : f < j ∧ xs.getD (j - 1) 0 = 1
          · have hj := HC.out (j - 1) (by omega)
            have HG : Hid _ := hgo
            rw [hgo.2] at hj
            have hfj' := hgo.1
            clear hgo
            go_wp2
            go_round
            case rel => exact ⟨j - 1, by go_num, by omega, by omega, by show _ = _; rw [← HJ.out, kb_yes xs f j HG.out.1 HG.out.2]⟩
            case measure => simp [intOf]; omega
          · have HE : Hid (j = kb xs f m) := by show _ = _; rw [← HJ.out, kb_no xs f j hgo]
            clear HJ
            by_cases hfj' : f < j
            · have hj := HC.out (j - 1) (by omega)
              have hj' : (xs.getD (j - 1) 0 == 1) = false := by simpa using fun h => hgo ⟨hfj', h⟩
              have hjf : ((j : Int) == (f : Int)) = false := by simp; omega
              clear hgo
              generalize xs.getD (j - 1) 0 = zj at *
              go_wp2
              try rw [Exit.noGoto_ret]
              go_ret
              exact ⟨ret_nat (by rw [hres.out, ← HE.out, if_neg (by omega)]), rfl⟩
            · have hjf : ((j : Int) == (f : Int)) = true := by simp; omega
              clear hgo
              go_wp2
              try rw [Exit.noGoto_ret]
              go_ret
              exact ⟨ret_nat (by rw [hres.out, ← HE.out, if_pos (by omega)]), rfl⟩
      · clear hC hE
        generalize xs.getD m 0 = z2 at *
        go_wp2
        go_loop [8] (fun e => ∃ j : Nat, e = .int .i64 j ∧ f ≤ j ∧ j ≤ m ∧ Hid (kb xs f j = kb xs f m)) (fun e => (intOf e).toNat)
        case atStart => exact ⟨m, rfl, hfm, Nat.le_refl _, rfl⟩
        case round =>
          obtain ⟨j, rfl, hfj, hjm, HJ⟩ := hrel
          by_cases hgo : f < j ∧ xs.getD (j - 1) 0 = 1
          · have hj := HC.out (j - 1) (by omega)
            have HG : Hid _ := hgo
            rw [hgo.2] at hj
            have hfj' := hgo.1
            clear hgo
            go_wp2
            go_round
            case rel => exact ⟨j - 1, by go_num, by omega, by omega, by show _ = _; rw [← HJ.out, kb_yes xs f j HG.out.1 HG.out.2]⟩
            case measure => simp [intOf]; omega
          · have HE : Hid (j = kb xs f m) := by show _ = _; rw [← HJ.out, kb_no xs f j hgo]
            clear HJ
            by_cases hfj' : f < j
            · have hj := HC.out (j - 1) (by omega)
              have hj' : (xs.getD (j - 1) 0 == 1) = false := by simpa using fun h => hgo ⟨hfj', h⟩
              have hjf : ((j : Int) == (f : Int)) = false := by simp; omega
              clear hgo
              generalize xs.getD (j - 1) 0 = zj at *
              go_wp2
              try rw [Exit.noGoto_ret]
              go_ret
              exact ⟨ret_nat (by rw [hres.out, ← HE.out, if_neg (by omega)]), rfl⟩
            · have hjf : ((j : Int) == (f : Int)) = true := by simp; omega
              clear hgo
              go_wp2
              try rw [Exit.noGoto_ret]
              go_ret
              exact ⟨ret_nat (by rw [hres.out, ← HE.out, if_pos (by omega)]), rfl⟩
end Go.Proofs.Ytodbpnigadgliaa
