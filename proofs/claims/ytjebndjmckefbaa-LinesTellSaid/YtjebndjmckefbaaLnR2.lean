/- The walk of stetref12.Cost. -/
import Derived.Test.YtjebndjmckefbaaRows
import Derived.Test.YtjebndjmckefbaaKit
import Derived.Test.YtjebndjmckefbaaLnR1
namespace Go.Proofs.Ytjebndjmckefbaa
open Go.RowKit

theorem drop_clip_len (ws : List Int) (a : Nat) : ((ws.map Ln.clip).drop a).length = ws.length - a := by simp

set_option maxHeartbeats 4000000 in
theorem rCost_any (ws ls : List Int) (width : Int) (v1 v2 : Value) (B1 B2 : Nat) (w : World) (h1 : Ints w B1 v1 ws) (h2 : Ints w B2 v2 ls) (hl : ws.length ≤ 1000) (hl2 : ls.length ≤ 100000) :
    Calls Try.prog 9 #[v1, v2, .int .i64 width] w fun e w' => e = .returned (costV (Ln.costF (min (max width 1) 1000).toNat (ws.map Ln.clip) ls)) ∧ w = w' := by
  obtain ⟨A1, c1, rfl, l1, m1, hA1⟩ := h1.shape
  obtain ⟨A2, c2, rfl, l2, m2, hA2⟩ := h2.shape
  obtain ⟨M, hM⟩ : ∃ M : Nat, M = (min (max width 1) 1000).toNat := ⟨_, rfl⟩
  rw [← hM]
  have hM1 : 1 ≤ M := by omega
  have hM2 : M ≤ 1000 := by omega
  have hMi : min (max width 1) 1000 = (M : Int) := by omega
  have HM := Lib.hid hMi
  have HA2 := Lib.hid hA2
  have H1 := Lib.hid h1
  clear hM hMi hA1 hA2 h1 h2
  go_enter Try.func9, Try.ntmps9
  go_wp2_with (go_at_call 18; refine (rLine_any _ _).mono ?_; rintro e w' ⟨rfl, rfl⟩; rw [HM.out])
  go_loop [9, 10, 11] (fun v a i => ∃ k acc at_ : Nat, i = .int .i64 k ∧ k ≤ ls.length ∧ a = .int .i64 acc ∧ v = .int .i64 at_ ∧ at_ ≤ ws.length ∧ acc ≤ k * 1000000 ∧
      Hid ((Ln.costF M ((ws.map Ln.clip).drop at_) (ls.drop k)).map (acc + ·) = Ln.costF M (ws.map Ln.clip) ls)) (fun _ _ i => ls.length - (intOf i).toNat)
  case atStart => exact ⟨0, 0, 0, rfl, Nat.zero_le _, rfl, rfl, Nat.zero_le _, Nat.zero_le _, by simp [Hid]⟩
  case round =>
    obtain ⟨k, acc, at_, rfl, hk, rfl, rfl, hat, hacc, HE⟩ := hrel
    by_cases hlt : k < ls.length
    · obtain ⟨b, off, rfl, _, hc⟩ := HA2.out (by rintro rfl; simp at hlt)
      have hcell := hc k hlt
      have hdr : Hid (ls.drop k = ls[k] :: ls.drop (k + 1)) := List.drop_eq_getElem_cons hlt
      clear hc
      generalize ls[k] = n at *
      have hcs := costF_cases M ((ws.map Ln.clip).drop at_) n (ls.drop (k + 1))
      have hc1 := hcs.1
      have hc2 := hcs.2.1
      have hc3 := hcs.2.2
      simp only [drop_clip_len] at hc2 hc3
      by_cases hn1 : n < 1
      · have HN : Hid (Ln.costF M (ws.map Ln.clip) ls = none) := by show _ = _; rw [← HE.out, hdr.out, hc1 hn1]; rfl
        clear hcs hc1 hc2 hc3
        go_wp2_with fail
        go_ret2
        exact ⟨by rw [HN.out]; rfl, rfl⟩
      · by_cases hn2 : (ws.length : Int) - at_ < n
        · have HN : Hid (Ln.costF M (ws.map Ln.clip) ls = none) := by show _ = _; rw [← HE.out, hdr.out, hc2 (by omega)]; rfl
          clear hcs hc1 hc2 hc3
          go_wp2_with fail
          go_ret2
          exact ⟨by rw [HN.out]; rfl, rfl⟩
        · obtain ⟨m, rfl⟩ := Int.eq_ofNat_of_zero_le (show 0 ≤ n by omega)
          have hm1 : 1 ≤ m := by omega
          have hm2 : at_ + m ≤ ws.length := by omega
          have htb := Ln.tks_le ((ws.map Ln.clip).drop at_) m (fun x hx => clips_le ws x (List.mem_of_mem_drop hx))
          have hrt := rTakes_any ws at_ m _ _ w H1.out (by omega) hm2 hm1
          have HC1 := Lib.hid hc3
          have HRT := Lib.hid hrt
          clear hcs hc1 hc2 hc3 hrt
          generalize ht : Ln.tks ((ws.map Ln.clip).drop at_) m = t at *
          have HTE := Lib.hid ht
          clear ht
          have HB : Hid (((((at_ + m : Nat) : Int)) == ((ws.length : Nat) : Int)) = decide (m = ws.length - at_)) := by
            show _ = _
            by_cases h : m = ws.length - at_
            · simp [h]; omega
            · simp [h]; omega
          have hadd : ((at_ : Int) + (m : Int)) = ((at_ + m : Nat) : Int) := by omega
          have HAD := Lib.hid hadd
          clear hadd
          go_wp2_with fail
          refine HRT.out.mono ?_
          rintro e w' ⟨rfl, rfl⟩
          by_cases hbad : 1 < m ∧ M < t
          · have hb1 := hbad.1
            have hb2 := hbad.2
            have HN : Hid (Ln.costF M (ws.map Ln.clip) ls = none) := by
              show _ = _
              rw [← HE.out, hdr.out, HC1.out m rfl hm1 (by omega) hb1 (by rw [HTE.out]; exact hb2)]; rfl
            clear hbad
            go_wp2_with fail
            go_ret2
            exact ⟨by rw [HN.out]; rfl, rfl⟩
          · have hlc := Ln.lc_le M t (decide (m = ws.length - at_)) hM2
            have HG : Hid ((Ln.costF M ((ws.map Ln.clip).drop (at_ + m)) (ls.drop (k + 1))).map (acc + Ln.lc M t (decide (m = ws.length - at_)) + ·) = Ln.costF M (ws.map Ln.clip) ls) := by
              show _ = _
              have hf : Ln.feas M ((ws.map Ln.clip).drop at_) m := ⟨hm1, by rw [drop_clip_len]; omega, by
                rw [HTE.out]
                rcases Nat.lt_or_ge 1 m with h | h
                · exact .inr (Nat.le_of_not_lt fun h' => hbad ⟨h, h'⟩)
                · exact .inl (by omega)⟩
              rw [← HE.out, hdr.out]
              have := Ln.costF_one M ((ws.map Ln.clip).drop at_) m (ls.drop (k + 1)) hf
              rw [HTE.out, drop_clip_len, List.drop_drop] at this
              show _ = Option.map _ (Ln.costF M ((ws.map Ln.clip).drop at_) ((m : Int) :: ls.drop (k + 1)))
              rw [this, Option.map_map]
              congr 1
              funext x
              simp [Nat.add_assoc]
            by_cases hm1' : 1 < m
            · have hb2 : ¬ M < t := fun h => hbad ⟨hm1', h⟩
              clear hbad
              go_wp2_with fail
              rw [HAD.out, HB.out]
              refine (rcost_any t M _ _ (by omega) hM2).mono ?_
              rintro e w' ⟨rfl, rfl⟩
              generalize hgl : Ln.lc M t (decide (m = ws.length - at_)) = lcv at *
              clear hgl
              go_wp2_with fail
              go_round
              case rel => exact ⟨k + 1, acc + lcv, at_ + m, by go_num, by omega, by go_num, by go_num, by omega, by omega, HG⟩
              case measure => simp [intOf]; omega
            · clear hbad
              go_wp2_with fail
              rw [HAD.out, HB.out]
              refine (rcost_any t M _ _ (by omega) hM2).mono ?_
              rintro e w' ⟨rfl, rfl⟩
              generalize hgl : Ln.lc M t (decide (m = ws.length - at_)) = lcv at *
              clear hgl
              go_wp2_with fail
              go_round
              case rel => exact ⟨k + 1, acc + lcv, at_ + m, by go_num, by omega, by go_num, by go_num, by omega, by omega, HG⟩
              case measure => simp [intOf]; omega
    · have hd0 : ls.drop k = [] := List.drop_of_length_le (by omega)
      by_cases h0 : at_ = ws.length
      · have HN : Hid (Ln.costF M (ws.map Ln.clip) ls = some acc) := by show _ = _; rw [← HE.out, hd0, h0, List.drop_of_length_le (by simp)]; rfl
        subst h0
        clear hd0
        go_wp2_with fail
        go_ret2
        exact ⟨by rw [HN.out]; rfl, rfl⟩
      · have HN : Hid (Ln.costF M (ws.map Ln.clip) ls = none) := by
          show _ = _
          rw [← HE.out, hd0]
          have := drop_clip_len ws at_
          cases hus : (ws.map Ln.clip).drop at_ with
          | nil => rw [hus] at this; simp at this; omega
          | cons u us => rfl
        have hpos : at_ < ws.length := by omega
        clear hd0 h0
        go_wp2_with fail
        go_ret2
        exact ⟨by rw [HN.out]; rfl, rfl⟩
end Go.Proofs.Ytjebndjmckefbaa
