/- The walks of lines: cut, takes, cost, Cost. -/
import Derived.Test.YtjebndjmckefbaaRows
import Derived.Test.YtjebndjmckefbaaKit
import Derived.Test.YtjebndjmckefbaaLnPl
namespace Go.Proofs.Ytjebndjmckefbaa
open Go.RowKit

theorem intInfo : (Try.prog.info? 3).map (fun i => (i.zero, i.size, i.bytes)) = some (some (.int .i64 0), 1, 8) := by kernel_rfl

set_option maxHeartbeats 400000 in
theorem cut_any (n low high : Int) (w : World) :
    Calls Try.prog 15 #[.int .i64 n, .int .i64 low, .int .i64 high] w fun e w' => e = .returned (.int .i64 (min (max n low) high)) ∧ w = w' := by
  go_enter Try.func15, Try.ntmps15
  go_wp2
  all_goals go_ret
  all_goals exact ⟨ret_int (by omega), rfl⟩
theorem cut_clip (n : Int) (w : World) :
    Calls Try.prog 15 #[.int .i64 n, .int .i64 0, .int .i64 1000] w fun e w' => e = .returned (.int .i64 (Ln.clip n)) ∧ w = w' :=
  (cut_any n 0 1000 w).mono fun _ _ ⟨h1, h2⟩ => ⟨by rw [h1]; exact ret_int (by unfold Ln.clip; omega), h2⟩

theorem sum_take_succ (W : List Nat) (k : Nat) (h : k < W.length) : (W.take (k + 1)).sum = (W.take k).sum + W[k] := by
  rw [List.take_succ_eq_append_getElem h, List.sum_append]; simp
theorem sum_take_le (W : List Nat) (k : Nat) (h : ∀ w ∈ W, w ≤ 1000) : (W.take k).sum ≤ k * 1000 := by
  have h1 := Ln.sum_le (W.take k) (fun x hx => h x (List.mem_of_mem_take hx))
  exact Nat.le_trans h1 (Nat.mul_le_mul_right _ (List.length_take_le _ _))
theorem clips_le (ws : List Int) : ∀ w ∈ ws.map Ln.clip, w ≤ 1000 := by
  intro w hw
  obtain ⟨x, _, hx⟩ := List.mem_map.1 hw
  rw [← hx]
  exact Ln.clip_le x

set_option maxHeartbeats 400000 in
theorem takes_any (ws : List Int) (v : Value) (B : Nat) (w : World) (hr : Ints w B v ws) (hl : ws.length ≤ 20000) :
    Calls Try.prog 16 #[v] w fun e w' => e = .returned (.int .i64 (((ws.map Ln.clip).sum : Int) + ws.length - 1)) ∧ w = w' := by
  obtain ⟨A, c, rfl, l1, m1, hA⟩ := hr.shape
  have HA := Lib.hid hA
  clear hA hr
  go_enter Try.func16, Try.ntmps16
  go_wp2
  go_loop [3, 11] (fun n i => ∃ k : Nat, k ≤ ws.length ∧ i = .int .i64 k ∧ n = .int .i64 ((((ws.map Ln.clip).take k).sum : Int) + ws.length - 1)) (fun _ i => ws.length - (intOf i).toNat)
  case atStart => exact ⟨0, Nat.zero_le _, rfl, by simp⟩
  case round =>
    obtain ⟨k, hk, rfl, rfl⟩ := hrel
    have hs := sum_take_le (ws.map Ln.clip) k (clips_le ws)
    by_cases hlt : k < ws.length
    · obtain ⟨b, off, rfl, _, hc⟩ := HA.out (by rintro rfl; simp at hlt)
      have hcell := hc k hlt
      have hsu : Hid (((ws.map Ln.clip).take (k + 1)).sum = ((ws.map Ln.clip).take k).sum + Ln.clip ws[k]) := by
        show _ = _
        rw [sum_take_succ _ k (by simpa using hlt)]; simp
      have hcl := Ln.clip_le ws[k]
      clear hc
      generalize ((ws.map Ln.clip).take k).sum = s at *
      generalize ws[k] = z at *
      go_wp2_with (go_at_call 15; refine (cut_clip _ _).mono ?_; rintro e w' ⟨rfl, rfl⟩)
      go_round
      case rel => exact ⟨k + 1, by omega, by go_num, by rw [hsu.out]; congr 1; push_cast; omega⟩
      case measure => simp [intOf]; omega
    · obtain rfl : k = ws.length := by omega
      go_wp2_with fail
      go_ret
      exact ⟨ret_int (by rw [List.take_of_length_le (by simp)]), rfl⟩

theorem lc_int (width t : Nat) (b : Bool) : ((Ln.lc width t b : Nat) : Int) = if b = true ∨ (width : Int) < t then 0 else ((width : Int) - t) * ((width : Int) - t) := by
  unfold Ln.lc
  cases b with
  | true => simp
  | false =>
    by_cases h : width < t
    · rw [if_pos (.inr h), if_pos (.inr (by omega))]; rfl
    · rw [if_neg (by simp; omega), if_neg (by simp; omega)]
      have : ((width - t : Nat) : Int) = (width : Int) - t := by omega
      rw [Int.natCast_mul, this]

set_option maxHeartbeats 400000 in
theorem cost_any (t width : Nat) (b : Bool) (w : World) (ht : t ≤ 100000000) (hw : width ≤ 1000) :
    Calls Try.prog 17 #[.int .i64 t, .int .i64 width, .bool b] w fun e w' => e = .returned (.int .i64 (Ln.lc width t b)) ∧ w = w' := by
  have HL : Hid (((Ln.lc width t b : Nat) : Int) = if b = true ∨ (width : Int) < t then 0 else ((width : Int) - t) * ((width : Int) - t)) := lc_int width t b
  cases b with
  | true =>
    go_enter Try.func17, Try.ntmps17
    go_wp2
    go_ret
    exact ⟨ret_int (by rw [HL.out]; simp), rfl⟩
  | false =>
    by_cases h : width < t
    · go_enter Try.func17, Try.ntmps17
      go_wp2
      go_ret
      exact ⟨ret_int (by rw [HL.out, if_pos (.inr (by omega))]), rfl⟩
    · have h1 : ((width : Int) - t) * ((width : Int) - t) ≤ 1000000 := by
        have : ((width : Int) - t) * ((width : Int) - t) = (((width - t) * (width - t) : Nat) : Int) := by rw [Int.natCast_mul]; congr 1 <;> omega
        rw [this]
        have := Nat.mul_le_mul (show width - t ≤ 1000 by omega) (show width - t ≤ 1000 by omega)
        omega
      have h0 : 0 ≤ ((width : Int) - t) * ((width : Int) - t) := Int.mul_nonneg (by omega) (by omega)
      go_enter Try.func17, Try.ntmps17
      go_wp2
      go_ret
      exact ⟨ret_int (by rw [HL.out, if_neg (by simp; omega)]), rfl⟩

/-- what Cost answers of words that are not too many -/
def costV (r : Option Nat) : Value := match r with
  | some c => .tuple #[.int .i64 c, .int .i64 0]
  | none => .tuple #[.int .i64 0, .int .i64 5]

theorem costF_cases (width : Nat) (W : List Nat) (n : Int) (l : List Int) :
    (n < 1 → Ln.costF width W (n :: l) = none) ∧ ((W.length : Int) < n → Ln.costF width W (n :: l) = none) ∧
    (∀ m : Nat, n = m → 1 ≤ m → m ≤ W.length → 1 < m → width < Ln.tks W m → Ln.costF width W (n :: l) = none) := by
  refine ⟨fun h => ?_, fun h => ?_, fun m hm h1 h2 h3 h4 => ?_⟩
  · rw [Ln.costF, if_pos (.inl h)]
  · rw [Ln.costF, if_pos (.inr h)]
  · subst hm
    rw [Ln.costF, if_neg (by omega), Int.toNat_natCast, if_pos ⟨h3, h4⟩]
theorem tks_take (W : List Nat) (n : Nat) (h1 : 1 ≤ n) : ((W.take n).sum : Int) + n - 1 = (Ln.tks W n : Int) := by
  unfold Ln.tks; omega

set_option maxHeartbeats 4000000 in
theorem Cost_any (ws ls : List Int) (width : Int) (v1 v2 : Value) (B1 B2 : Nat) (w : World) (h1 : Ints w B1 v1 ws) (h2 : Ints w B2 v2 ls) (hl : ws.length ≤ 1000) (hl2 : ls.length ≤ 100000) :
    Calls Try.prog 8 #[v1, v2, .int .i64 width] w fun e w' => e = .returned (costV (Ln.costF (min (max width 1) 1000).toNat (ws.map Ln.clip) ls)) ∧ w = w' := by
  obtain ⟨A1, c1, rfl, l1, m1, hA1⟩ := h1.shape
  obtain ⟨A2, c2, rfl, l2, m2, hA2⟩ := h2.shape
  obtain ⟨M, hM⟩ : ∃ M : Nat, M = (min (max width 1) 1000).toNat := ⟨_, rfl⟩
  rw [← hM]
  have hM1 : 1 ≤ M := by omega
  have hM2 : M ≤ 1000 := by omega
  have hMi : min (max width 1) 1000 = (M : Int) := by omega
  have HM := Lib.hid hMi
  have HA2 := Lib.hid hA2
  have H1 := Lib.hid h1
  clear hM hMi hA1 hA2 h1 h2
  go_enter Try.func8, Try.ntmps8
  go_wp2_with (go_at_call 15; refine (cut_any _ _ _ _).mono ?_; rintro e w' ⟨rfl, rfl⟩; rw [HM.out])
  go_loop [0, 8, 19] (fun v a i => ∃ (k acc : Nat) (us : List Int), i = .int .i64 k ∧ k ≤ ls.length ∧ a = .int .i64 acc ∧ Ints w B1 v us ∧ us.length ≤ 1000 ∧ acc ≤ k * 1000000 ∧
      Hid ((Ln.costF M (us.map Ln.clip) (ls.drop k)).map (acc + ·) = Ln.costF M (ws.map Ln.clip) ls)) (fun _ _ i => ls.length - (intOf i).toNat)
  case atStart => exact ⟨0, 0, ws, rfl, Nat.zero_le _, rfl, H1.out, hl, Nat.zero_le _, by simp [Hid]⟩
  case round =>
    obtain ⟨k, acc, us, rfl, hk, rfl, hus, hul, hacc, HE⟩ := hrel
    obtain ⟨Au, cu, rfl, lu, mu, hAu⟩ := hus.shape
    clear hAu
    by_cases hlt : k < ls.length
    · obtain ⟨b, off, rfl, _, hc⟩ := HA2.out (by rintro rfl; simp at hlt)
      have hcell := hc k hlt
      have hdr : Hid (ls.drop k = ls[k] :: ls.drop (k + 1)) := List.drop_eq_getElem_cons hlt
      clear hc
      generalize ls[k] = n at *
      have hcs := costF_cases M (us.map Ln.clip) n (ls.drop (k + 1))
      have hc1 := hcs.1
      have hc2 := hcs.2.1
      have hc3 := hcs.2.2
      simp only [List.length_map] at hc2 hc3
      by_cases hn1 : n < 1
      · have HN : Hid (Ln.costF M (ws.map Ln.clip) ls = none) := by show _ = _; rw [← HE.out, hdr.out, hc1 hn1]; rfl
        clear hcs hc1 hc2 hc3
        go_wp2_with fail
        go_ret2
        exact ⟨by rw [HN.out]; rfl, rfl⟩
      · by_cases hn2 : (us.length : Int) < n
        · have HN : Hid (Ln.costF M (ws.map Ln.clip) ls = none) := by show _ = _; rw [← HE.out, hdr.out, hc2 hn2]; rfl
          clear hcs hc1 hc2 hc3
          go_wp2_with fail
          go_ret2
          exact ⟨by rw [HN.out]; rfl, rfl⟩
        · obtain ⟨m, rfl⟩ := Int.eq_ofNat_of_zero_le (show 0 ≤ n by omega)
          have hm1 : 1 ≤ m := by omega
          have hm2 : m ≤ us.length := by omega
          have hct := row_cut2 hus (n := 0) (m := m) (Nat.zero_le _) hm2 _ _ _ rfl
          have hcd := row_cut hus hm2 _ _ _ rfl
          simp only [Nat.sub_zero, List.drop_zero] at hct
          have htk := tks_take (us.map Ln.clip) m hm1
          rw [← List.map_take] at htk
          have htl : (us.take m).length = m := by simp; omega
          have htb := Ln.tks_le (us.map Ln.clip) m (clips_le us)
          have HT : Hid ((((us.take m).map Ln.clip).sum : Int) + (us.take m).length - 1 = (Ln.tks (us.map Ln.clip) m : Int)) := by
            show _ = _; rw [htl]; exact htk
          have HC1 := Lib.hid hc3
          have HTL := Lib.hid htl
          have HD := Lib.hid hcd
          clear hcs hc1 hc2 hc3 htk htl hcd
          have hdl : (us.drop m).length ≤ 1000 := by simp; omega
          generalize ht : Ln.tks (us.map Ln.clip) m = t at *
          have HTE := Lib.hid ht
          clear ht
          have HB : Hid ((((us.length - m : Nat) : Int) == 0) = decide (m = us.length)) := by
            show _ = _
            by_cases h : m = us.length
            · simp [h]
            · simp [h]; omega
          go_wp2_with fail
          refine (takes_any (us.take m) _ _ _ hct (by rw [HTL.out]; omega)).mono ?_
          rintro e w' ⟨rfl, rfl⟩
          rw [HT.out]
          by_cases hbad : 1 < m ∧ M < t
          · have hb1 := hbad.1
            have hb2 := hbad.2
            have HN : Hid (Ln.costF M (ws.map Ln.clip) ls = none) := by
              show _ = _
              rw [← HE.out, hdr.out, HC1.out m rfl hm1 hm2 hb1 (by rw [HTE.out]; exact hb2)]; rfl
            clear hbad
            go_wp2_with fail
            go_ret2
            exact ⟨by rw [HN.out]; rfl, rfl⟩
          · have hlc := Ln.lc_le M t (decide (m = us.length)) hM2
            have HG : Hid ((Ln.costF M ((us.drop m).map Ln.clip) (ls.drop (k + 1))).map (acc + Ln.lc M t (decide (m = us.length)) + ·) = Ln.costF M (ws.map Ln.clip) ls) := by
              show _ = _
              have hf : Ln.feas M (us.map Ln.clip) m := ⟨hm1, by simpa using hm2, by
                rw [HTE.out]
                rcases Nat.lt_or_ge 1 m with h | h
                · exact .inr (Nat.le_of_not_lt fun h' => hbad ⟨h, h'⟩)
                · exact .inl (by omega)⟩
              rw [← HE.out, hdr.out]
              have := Ln.costF_one M (us.map Ln.clip) m (ls.drop (k + 1)) hf
              rw [HTE.out, List.length_map, ← List.map_drop] at this
              show _ = Option.map _ (Ln.costF M (us.map Ln.clip) ((m : Int) :: ls.drop (k + 1)))
              rw [this, Option.map_map]
              congr 1
              funext x
              simp [Nat.add_assoc]
            have hdl2 : ((us.length : Int) - (m : Int)) = ((us.length - m : Nat) : Int) := by omega
            have HDL2 := Lib.hid hdl2
            clear hdl2
            by_cases hm1' : 1 < m
            · have hb2 : ¬ M < t := fun h => hbad ⟨hm1', h⟩
              clear hbad
              go_wp2_with fail
              rw [HB.out]
              refine (cost_any t M _ _ (by omega) hM2).mono ?_
              rintro e w' ⟨rfl, rfl⟩
              generalize hgl : Ln.lc M t (decide (m = us.length)) = lcv at *
              clear hgl
              go_wp2_with fail
              go_round
              case rel => exact ⟨k + 1, acc + lcv, us.drop m, by go_num, by omega, by go_num, by have := HD.out; simpa using this, hdl, by omega, HG⟩
              case measure => simp [intOf]; omega
            · clear hbad
              go_wp2_with fail
              rw [HB.out]
              refine (cost_any t M _ _ (by omega) hM2).mono ?_
              rintro e w' ⟨rfl, rfl⟩
              generalize hgl : Ln.lc M t (decide (m = us.length)) = lcv at *
              clear hgl
              go_wp2_with fail
              go_round
              case rel => exact ⟨k + 1, acc + lcv, us.drop m, by go_num, by omega, by go_num, by have := HD.out; simpa using this, hdl, by omega, HG⟩
              case measure => simp [intOf]; omega
    · have hd0 : ls.drop k = [] := List.drop_of_length_le (by omega)
      by_cases h0 : us = []
      · have HN : Hid (Ln.costF M (ws.map Ln.clip) ls = some acc) := by show _ = _; rw [← HE.out, hd0, h0]; rfl
        subst h0
        clear hd0
        go_wp2_with fail
        go_ret2
        exact ⟨by rw [HN.out]; rfl, rfl⟩
      · have HN : Hid (Ln.costF M (ws.map Ln.clip) ls = none) := by
          show _ = _
          rw [← HE.out, hd0]
          cases us with
          | nil => exact absurd rfl h0
          | cons u us => rfl
        have hpos : 0 < us.length := List.length_pos_iff.2 h0
        clear hd0 h0
        go_wp2_with fail
        go_ret2
        exact ⟨by rw [HN.out]; rfl, rfl⟩
end Go.Proofs.Ytjebndjmckefbaa
