/- The walks of stetref13: breaks, lines, keeps, One, Pages, Of. -/
import Derived.Test.YtodbpnigadgliaaRows
import Derived.Test.YtodbpnigadgliaaPgPl
import Derived.Test.YtodbpnigadgliaaKit
import Derived.Test.YtodbpnigadgliaaPgPages
import Derived.Test.YtodbpnigadgliaaPgLaw
namespace Go.Proofs.Ytodbpnigadgliaa
open Go.RowKit

theorem nb_yes' (xs : List Int) (k : Nat) (h : k < xs.length) (h2 : xs[k] = 2) : nb (xs.drop k) = nb (xs.drop (k + 1)) + 1 := by
  rw [List.drop_eq_getElem_cons h, nb, if_pos h2]
theorem nb_no' (xs : List Int) (k : Nat) (h : k < xs.length) (h2 : ¬ xs[k] = 2) : nb (xs.drop k) = 0 := by
  rw [List.drop_eq_getElem_cons h, nb, if_neg h2]

set_option maxHeartbeats 400000 in
theorem rBreaks_any (xs : List Int) (v : Value) (B : Nat) (w : World) (hr : Ints w B v xs) :
    Calls Try.prog 16 #[v] w fun e w' => e = .returned (.int .i64 (nb xs)) ∧ w = w' := by
  obtain ⟨A, c, rfl, l1, m1, hA⟩ := hr.shape
  have HA := Lib.hid hA
  clear hA hr
  go_enter Try.func16, Try.ntmps16
  go_wp2
  go_loop [3] (fun n => ∃ k : Nat, k ≤ xs.length ∧ n = .int .i64 k ∧ Hid (k + nb (xs.drop k) = nb xs)) (fun n => xs.length - (intOf n).toNat)
  case atStart => exact ⟨0, Nat.zero_le _, rfl, by simp [Hid]⟩
  case round =>
    obtain ⟨k, hk, rfl, H⟩ := hrel
    by_cases hlt : k < xs.length
    · obtain ⟨b, off, rfl, _, hc⟩ := HA.out (by rintro rfl; simp at hlt)
      have hcell := hc k hlt
      clear hc
      by_cases hb : xs[k] = 2
      · have HE : Hid (k + 1 + nb (xs.drop (k + 1)) = nb xs) := by show _ = _; rw [← H.out, nb_yes' xs k hlt hb]; omega
        rw [hb] at hcell
        clear H hb
        go_wp2
        go_round
        case rel => exact ⟨k + 1, by omega, by go_num, HE⟩
        case measure => simp [intOf]; omega
      · have HE : Hid (k = nb xs) := by show _ = _; rw [← H.out, nb_no' xs k hlt hb]; rfl
        have hb' : (xs[k] == 2) = false := by simpa using hb
        clear H hb
        generalize xs[k] = z at *
        go_wp2
        go_ret
        exact ⟨ret_nat HE.out, rfl⟩
    · have HE : Hid (k = nb xs) := by show _ = _; rw [← H.out, nb_end xs k hlt]; rfl
      clear H
      go_wp2
      go_ret
      exact ⟨ret_nat HE.out, rfl⟩

theorem nl_on (xs : List Int) (k m : Nat) (h : k < xs.length) (hm : k < m) (h2 : ¬ xs[k] = 2) : nl (xs.drop k) (m - k) = nl (xs.drop (k + 1)) (m - (k + 1)) + 1 := by
  obtain ⟨d, hd⟩ : ∃ d, m - k = d + 1 := ⟨m - k - 1, by omega⟩
  rw [List.drop_eq_getElem_cons h, hd, nl, if_neg h2, show m - (k + 1) = d from by omega]
theorem nl_brk (xs : List Int) (k m : Nat) (h : k < xs.length) (h2 : xs[k] = 2) : nl (xs.drop k) m = 0 := by
  rw [List.drop_eq_getElem_cons h]
  cases m with
  | zero => rfl
  | succ m => rw [nl, if_pos h2]
theorem nl_max (xs : List Int) : nl xs 0 = 0 := by cases xs <;> rfl
theorem nl_end (xs : List Int) (k m : Nat) (h : ¬ k < xs.length) : nl (xs.drop k) m = 0 := by
  rw [List.drop_of_length_le (by omega)]; cases m <;> rfl

set_option maxHeartbeats 400000 in
theorem rLines_any (xs : List Int) (m : Nat) (v : Value) (B : Nat) (w : World) (hr : Ints w B v xs) :
    Calls Try.prog 17 #[v, .int .i64 m] w fun e w' => e = .returned (.int .i64 (nl xs m)) ∧ w = w' := by
  obtain ⟨A, c, rfl, l1, m1, hA⟩ := hr.shape
  have HA := Lib.hid hA
  clear hA hr
  go_enter Try.func17, Try.ntmps17
  go_wp2
  go_loop [5] (fun n => ∃ k : Nat, k ≤ xs.length ∧ n = .int .i64 k ∧ k ≤ m ∧ Hid (k + nl (xs.drop k) (m - k) = nl xs m)) (fun n => xs.length - (intOf n).toNat)
  case atStart => exact ⟨0, Nat.zero_le _, rfl, Nat.zero_le _, by simp [Hid]⟩
  case round =>
    obtain ⟨k, hk, rfl, hkm, H⟩ := hrel
    by_cases hlt : k < xs.length
    · by_cases hm : k < m
      · obtain ⟨b, off, rfl, _, hc⟩ := HA.out (by rintro rfl; simp at hlt)
        have hcell := hc k hlt
        clear hc
        by_cases hb : xs[k] = 2
        · have HE : Hid (k = nl xs m) := by show _ = _; rw [← H.out, nl_brk xs k _ hlt hb]; rfl
          rw [hb] at hcell
          clear H hb
          go_wp2
          go_ret
          exact ⟨ret_nat HE.out, rfl⟩
        · have HE : Hid (k + 1 + nl (xs.drop (k + 1)) (m - (k + 1)) = nl xs m) := by show _ = _; rw [← H.out, nl_on xs k m hlt hm hb]; omega
          have hb' : (xs[k] != 2) = true := by simpa using hb
          clear H hb
          generalize xs[k] = z at *
          go_wp2
          go_round
          case rel => exact ⟨k + 1, by omega, by go_num, by omega, HE⟩
          case measure => simp [intOf]; omega
      · have HE : Hid (k = nl xs m) := by show _ = _; rw [← H.out, show m - k = 0 from by omega, nl_max]; rfl
        clear H
        go_wp2
        go_ret
        exact ⟨ret_nat HE.out, rfl⟩
    · have HE : Hid (k = nl xs m) := by show _ = _; rw [← H.out, nl_end xs k _ hlt]; rfl
      clear H
      go_wp2
      go_ret
      exact ⟨ret_nat HE.out, rfl⟩

theorem nk_yes (xs : List Int) (k : Nat) (h : k < xs.length) (h2 : xs[xs.length - 1 - k] = 1) : nk (xs.reverse.drop k) = nk (xs.reverse.drop (k + 1)) + 1 := by
  rw [List.drop_eq_getElem_cons (by simpa using h), nk, if_pos (by rw [List.getElem_reverse]; exact h2)]
theorem nk_no (xs : List Int) (k : Nat) (h : k < xs.length) (h2 : ¬ xs[xs.length - 1 - k] = 1) : nk (xs.reverse.drop k) = 0 := by
  rw [List.drop_eq_getElem_cons (by simpa using h), nk, if_neg (by rw [List.getElem_reverse]; exact h2)]
theorem nk_end (xs : List Int) (k : Nat) (h : ¬ k < xs.length) : nk (xs.reverse.drop k) = 0 := by
  rw [List.drop_of_length_le (by simp; omega)]; rfl

set_option maxHeartbeats 400000 in
theorem rKeeps_any (xs : List Int) (v : Value) (B : Nat) (w : World) (hr : Ints w B v xs) :
    Calls Try.prog 18 #[v] w fun e w' => e = .returned (.int .i64 (nk xs.reverse)) ∧ w = w' := by
  obtain ⟨A, c, rfl, l1, m1, hA⟩ := hr.shape
  have HA := Lib.hid hA
  clear hA hr
  go_enter Try.func18, Try.ntmps18
  go_wp2
  go_loop [3] (fun n => ∃ k : Nat, k ≤ xs.length ∧ n = .int .i64 k ∧ Hid (k + nk (xs.reverse.drop k) = nk xs.reverse)) (fun n => xs.length - (intOf n).toNat)
  case atStart => exact ⟨0, Nat.zero_le _, rfl, by simp [Hid]⟩
  case round =>
    obtain ⟨k, hk, rfl, H⟩ := hrel
    by_cases hlt : k < xs.length
    · obtain ⟨b, off, rfl, _, hc⟩ := HA.out (by rintro rfl; simp at hlt)
      have hlt2 : xs.length - 1 - k < xs.length := by omega
      have hcell := hc (xs.length - 1 - k) hlt2
      clear hc
      by_cases hb : xs[xs.length - 1 - k] = 1
      · have HE : Hid (k + 1 + nk (xs.reverse.drop (k + 1)) = nk xs.reverse) := by show _ = _; rw [← H.out, nk_yes xs k hlt hb]; omega
        rw [hb] at hcell
        clear H hb
        go_wp2
        go_round
        case rel => exact ⟨k + 1, by omega, by go_num, HE⟩
        case measure => simp [intOf]; omega
      · have HE : Hid (k = nk xs.reverse) := by show _ = _; rw [← H.out, nk_no xs k hlt hb]; rfl
        have hb' : (xs[xs.length - 1 - k] == 1) = false := by simpa using hb
        clear H hb
        generalize xs[xs.length - 1 - k] = z at *
        go_wp2
        go_ret
        exact ⟨ret_nat HE.out, rfl⟩
    · have HE : Hid (k = nk xs.reverse) := by show _ = _; rw [← H.out, nk_end xs k hlt]; rfl
      clear H
      go_wp2
      go_ret
      exact ⟨ret_nat HE.out, rfl⟩

theorem nl_le (xs : List Int) : ∀ m, nl xs m ≤ xs.length := by
  induction xs with
  | nil => intro m; cases m <;> simp [nl]
  | cons x xs ih =>
    intro m
    cases m with
    | zero => simp [nl]
    | succ m => have := ih m; unfold nl; split <;> simp; omega
theorem nl_le_m (xs : List Int) : ∀ m, nl xs m ≤ m := by
  induction xs with
  | nil => intro m; cases m <;> simp [nl]
  | cons x xs ih =>
    intro m
    cases m with
    | zero => simp [nl]
    | succ m => have := ih m; unfold nl; split <;> omega
theorem nk_le (xs : List Int) : nk xs ≤ xs.length := by
  induction xs with
  | nil => simp [nk]
  | cons x xs ih => unfold nk; split <;> simp; omega

set_option maxHeartbeats 1000000 in
theorem rOne_any (xs : List Int) (m : Nat) (v : Value) (B : Nat) (w : World) (hr : Ints w B v xs) :
    Calls Try.prog 15 #[v, .int .i64 m] w fun e w' => e = .returned (.int .i64 (rOneF xs m)) ∧ w = w' := by
  obtain ⟨A, c, rfl, l1, m1, hA⟩ := hr.shape
  have hb := nb_le xs
  have hn := nl_le (xs.drop (nb xs)) m
  have hk := nk_le ((xs.drop (nb xs)).take (nl (xs.drop (nb xs)) m)).reverse
  rw [List.length_drop] at hn
  simp only [List.length_reverse, List.length_take, List.length_drop] at hk
  obtain ⟨f, hf⟩ : ∃ f, f = nb xs := ⟨_, rfl⟩
  obtain ⟨n, hn'⟩ : ∃ n, n = nl (xs.drop f) m := ⟨_, rfl⟩
  obtain ⟨k, hk'⟩ : ∃ k, k = nk ((xs.drop f).take n).reverse := ⟨_, rfl⟩
  rw [← hf, ← hn'] at hk
  rw [← hf] at hb hn
  rw [← hn'] at hn
  rw [← hk'] at hk
  have HR : Hid (rOneF xs m = if f + n = xs.length then f + n else if xs.getD (f + n) 0 = 2 then f + n + 1 else if k = n then f + n else f + n - k) := by
    show _ = _
    rw [hk', hn', hf]; rfl
  have HF := Lib.hid hf
  have HN := Lib.hid hn'
  have HK := Lib.hid hk'
  have HA := Lib.hid hA
  clear hf hn' hk' hA
  have hcut1 := row_cut hr hb _ _ _ rfl
  have hcut2 := row_cut2 hr (n := f) (m := f + n) (by omega) (by omega) _ _ _ rfl
  rw [show f + n - f = n from by omega] at hcut2
  have HC1 := Lib.hid hcut1
  have HC2 := Lib.hid hcut2
  clear hcut1 hcut2
  go_enter Try.func15, Try.ntmps15
  go_wp2_with fail
  refine (rBreaks_any xs _ _ _ hr).mono ?_
  rintro e w' ⟨rfl, rfl⟩
  rw [← HF.out]
  go_upto_region 2 with fail
  go_cut [6] (fun v wx => v = .int .i64 n ∧ w = wx)
  case first =>
    go_wp2_with fail
    all_goals
      refine (rLines_any (xs.drop f) m _ B _ HC1.out).mono ?_
      rintro e w' ⟨rfl, rfl⟩
      rw [← HN.out]
      go_wp2_with fail
      go_meet
      exact ⟨rfl, rfl⟩
  case rest =>
    obtain ⟨rfl, rfl⟩ := hcut
    by_cases h1 : f + n = xs.length
    · have H1 := Lib.hid h1
      have h1' : (((f : Int) + (n : Int)) == (xs.length : Int)) = true := by simp; omega
      clear h1
      go_wp2_with fail
      go_ret
      exact ⟨ret_int (by rw [HR.out, if_pos H1.out]; omega), rfl⟩
    · have h1' : (((f : Int) + (n : Int)) == (xs.length : Int)) = false := by simp; omega
      have hlt : f + n < xs.length := by omega
      obtain ⟨b, off, rfl, _, hc⟩ := HA.out (by rintro rfl; simp at hlt)
      have hcell := hc (f + n) hlt
      have hge : xs.getD (f + n) 0 = xs[f + n] := by simp [hlt]
      have HR2 : Hid (rOneF xs m = if xs[f + n] = 2 then f + n + 1 else if k = n then f + n else f + n - k) := by show _ = _; rw [HR.out, if_neg h1, hge]
      clear hc h1 hge HR
      by_cases h2 : xs[f + n] = 2
      · have HE : Hid (rOneF xs m = f + n + 1) := by show _ = _; rw [HR2.out, if_pos h2]
        rw [h2] at hcell
        clear h2 HR2
        go_wp2_with fail
        go_ret
        exact ⟨ret_int (by rw [HE.out]; omega), rfl⟩
      · have HE : Hid (rOneF xs m = if k = n then f + n else f + n - k) := by show _ = _; rw [HR2.out, if_neg h2]
        have h2' : (xs[f + n] == 2) = false := by simpa using h2
        clear h2 HR2
        generalize xs[f + n] = z at *
        go_upto_region 8 with fail
        go_cut [8] (fun v wx => v = .int .i64 k ∧ w = wx)
        case first =>
          go_wp2_with fail
          all_goals
            refine (rKeeps_any ((xs.drop f).take n) _ B _ HC2.out).mono ?_
            rintro e w' ⟨rfl, rfl⟩
            rw [← HK.out]
            go_wp2_with fail
            go_meet
            exact ⟨rfl, rfl⟩
        case rest =>
          obtain ⟨rfl, rfl⟩ := hcut
          by_cases h3 : k = n
          · have H3 := Lib.hid h3
            have h3' : ((k : Int) == (n : Int)) = true := by simp; omega
            clear h3
            go_wp2_with fail
            go_ret
            exact ⟨ret_int (by rw [HE.out, if_pos H3.out]; omega), rfl⟩
          · have h3' : ((k : Int) == (n : Int)) = false := by simp; omega
            have hkn : k ≤ n := by omega
            have H3 := Lib.hid h3
            clear h3
            go_wp2_with fail
            go_ret
            exact ⟨ret_int (by rw [HE.out, if_neg H3.out]; omega), rfl⟩

set_option maxHeartbeats 1000000 in
theorem rPages_any (xs : List Int) (h : Int) (v : Value) (w : World) (hr : Ints w w.heap.size v xs) (hx : xs.length ≤ 1000000) :
    Calls Try.prog 9 #[v, .int .i64 h] w fun e w' => ∃ r, e = .returned r ∧
      w'.ownsRow w.heap.size 3 1 r (pagesF xs (min (max h 1) 1000).toNat).length ((pagesF xs (min (max h 1) 1000).toNat).map (.int .i64)) ∧ Below w.heap.size w w' := by
  obtain ⟨i0, hi0, hz0, hz1, hz2⟩ := info_parts intInfo
  obtain ⟨m, hm⟩ : ∃ m : Nat, m = (min (max h 1) 1000).toNat := ⟨_, rfl⟩
  rw [← hm]
  have hm1 : 1 ≤ m := by omega
  have hm2 : m ≤ 1000 := by omega
  have HM := Lib.hid hm
  clear hm
  go_enter Try.func9, Try.ntmps9
  go_upto_region 1 with fail
  go_cut [5, 6] (fun v o wx => v = .int .i64 m ∧ wx.ownsRow w.heap.size 3 1 o 0 [] ∧ Below w.heap.size w wx)
  case first =>
    go_wp2
    all_goals go_meet
    all_goals exact ⟨by rw [HM.out]; congr 1; omega, World.ownsRow_made _ #[] 0 (Nat.le_refl _) (by decide) rfl, (Below.refl _ _).alloc (Nat.le_refl _) _⟩
  case rest =>
    obtain ⟨rfl, hown0, hbel0⟩ := hcut
    have hr0 := hr.below hbel0 (Nat.le_refl _)
    go_wp2
    go_loopw [0, 6] (fun v0 v5 wr => ∃ ys outs : List Int, Ints wr w.heap.size v0 ys ∧ ys.length + outs.length ≤ xs.length ∧ wr.ownsRow w.heap.size 3 1 v5 outs.length (outs.map (.int .i64)) ∧ Below w.heap.size w wr ∧
       Hid (outs ++ pagesF ys m = pagesF xs m)) (fun v0 _ _ => match v0 with | .slice _ n _ => n | _ => 0)
    case atStart => exact ⟨xs, [], hr0, by simp, hown0, hbel0, rfl⟩
    case round =>
      obtain ⟨ys, outs, hys, hle, hown, hbel, HE⟩ := hrel
      obtain ⟨A, c, rfl, l1, m1, hA⟩ := hys.shape
      by_cases hne : ys = []
      · subst hne
        have HT : Hid (pagesF xs m = outs) := by show _ = _; rw [← HE.out, pagesF_nil]; simp
        clear HE hA
        go_wp2
        go_ret
        exact ⟨_, rfl, by rw [HT.out]; exact hown, hbel⟩
      · have hpos : 0 < ys.length := List.length_pos_iff.2 hne
        clear hA
        have hn1 := oneF_pos ys m hm1 hne
        have hn2 := oneF_le ys m
        have HQ : Hid (rOneF ys m = oneF ys m) := rOneF_eq ys m hm1
        go_wp2_with (first
          | (go_at_call 15; refine (rOne_any ys m _ _ _ hys).mono ?_; rintro e w' ⟨rfl, rfl⟩; rw [HQ.out])
          | (at_builtin; refine wpList_app1 rfl (.tmp 18) (.tmp 20) 22 rfl w.heap.size 3 i0 (.int .i64 0) 8 Try.underlying22 hi0 hz0 hz1 hz2 rfl _ _ _ (.int .i64 (oneF ys m)) rfl rfl rfl hown hbel.size (by simp only [maxLen]; omega) (by omega) ?_; intro v' w1 hown' hbel' _))
        go_roundw
        case rel =>
          refine ⟨ys.drop (oneF ys m), outs ++ [(oneF ys m : Int)], ?_, by simp; omega, by simpa using hown', hbel.trans hbel', ?_⟩
          · simpa using row_cut (hys.below hbel' (Nat.le_refl _)) hn2 _ _ _ rfl
          · show _ = _
            rw [← HE.out, pagesF_cons ys m hm1 hne]; simp
        case measure => simp; omega

set_option maxHeartbeats 400000 in
theorem rOf_any (ps : List Int) (i : Int) (v : Value) (B : Nat) (w : World) (h : Ints w B v ps) (hp : ∀ x ∈ ps, 0 ≤ x ∧ x ≤ 1000000) (hi : i ≤ 9223372036854775807) (hps : ps.length ≤ 1000000) :
    Calls Try.prog 12 #[v, .int .i64 i] w fun e w' => e = .returned (.int .i64 (ofF ps (max i 0) 0 (max 1 ps.length))) ∧ w = w' := by
  obtain ⟨A, c, rfl, l1, m1, hA⟩ := h.shape
  clear h
  obtain ⟨m, hm⟩ : ∃ m, m = max i 0 := ⟨_, rfl⟩
  rw [← hm]
  have hm0 : 0 ≤ m := by omega
  have hm1 : m ≤ 9223372036854775807 := by omega
  have HM := Lib.hid hm
  clear hm
  have HP := Lib.hid hp
  have HA := Lib.hid hA
  clear hp hA
  go_enter Try.func12, Try.ntmps12
  go_wp2
  go_loop [5, 6] (fun v x => ∃ (k s : Nat), v = .int .i64 s ∧ x = .int .i64 k ∧ k ≤ ps.length ∧ s ≤ k * 1000000 ∧ (s : Int) ≤ m ∧ Hid (ofF (ps.drop k) (m - s) k (max 1 ps.length) = ofF ps m 0 (max 1 ps.length))) (fun _ x => ps.length - (intOf x).toNat)
  case atStart => exact ⟨0, 0, rfl, rfl, Nat.zero_le _, Nat.le_refl _, by omega, by simp [Hid]⟩
  case round =>
    obtain ⟨k, s, rfl, rfl, hk, hs, hsm, HE⟩ := hrel
    by_cases hlt : k < ps.length
    · obtain ⟨b, off, rfl, _, hc⟩ := HA.out (by rintro rfl; simp at hlt)
      have hcell := hc k hlt
      have hpk := HP.out ps[k] (List.getElem_mem hlt)
      have hs' : Hid (ofF (ps.drop k) (m - s) k (max 1 ps.length) = if m - s < ps[k] then (k : Int) + 1 else ofF (ps.drop (k + 1)) (m - s - ps[k]) ((k : Int) + 1) (max 1 ps.length)) := by
        rw [List.drop_eq_getElem_cons hlt]; rfl
      clear hc
      generalize ps[k] = z at *
      obtain ⟨z, rfl⟩ := Int.eq_ofNat_of_zero_le hpk.1
      have hz1 : z ≤ 1000000 := by omega
      have hz0 : (0 : Int) ≤ (z : Int) := hpk.1
      clear hpk
      by_cases hneg : i ≤ 0
      · have hm2 : m ≤ 0 := by have := HM.out; omega
        by_cases hz : m - s < z
        · go_wp2
          go_ret
          exact ⟨ret_int (by rw [← HE.out, hs'.out, if_pos hz]), rfl⟩
        · go_wp2
          go_round
          case rel => exact ⟨k + 1, s + z, by go_num, by go_num, by omega, by omega, by omega, by show _ = _; rw [← HE.out, hs'.out, if_neg hz]; congr 1; omega⟩
          case measure => simp [intOf]; omega
      · have hm2 : m ≤ i := by have := HM.out; omega
        have hm3 : i ≤ m := by have := HM.out; omega
        by_cases hz : m - s < z
        · go_wp2
          go_ret
          exact ⟨ret_int (by rw [← HE.out, hs'.out, if_pos hz]), rfl⟩
        · go_wp2
          go_round
          case rel => exact ⟨k + 1, s + z, by go_num, by go_num, by omega, by omega, by omega, by show _ = _; rw [← HE.out, hs'.out, if_neg hz]; congr 1; omega⟩
          case measure => simp [intOf]; omega
    · have HT : Hid (ofF ps m 0 (max 1 (ps.length : Int)) = max 1 (ps.length : Int)) := by
        show _ = _
        rw [← HE.out, List.drop_of_length_le (by omega)]; rfl
      clear HE
      go_wp2
      all_goals go_ret
      all_goals exact ⟨ret_int (by rw [HT.out]; omega), rfl⟩

theorem rPages_ints (xs : List Int) (h : Int) (v : Value) (B : Nat) (w : World) (ys : List Int) (he : pagesF xs (min (max h 1) 1000).toNat = ys) (hr : Ints w B v xs) (hB : B ≤ w.heap.size) (hx : xs.length ≤ 1000000) :
    Calls Try.prog 9 #[v, .int .i64 h] w fun e w' => ∃ r, e = .returned r ∧ Ints w' w'.heap.size r ys ∧ Below w.heap.size w w' :=
  (rPages_any xs h v w (hr.more hB) hx).mono fun _ _ ⟨r, h1, h2, h3⟩ => ⟨r, h1, he ▸ Row.own h2, h3⟩
end Go.Proofs.Ytodbpnigadgliaa
