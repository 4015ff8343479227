/- The reference's Put and Map, whose rows are the call's own. -/
import Derived.Test.YtkoegbjnhoecoaaGreatDoorWrM2
namespace Go.Proofs.YtkoegbjnhoecoaaGreatDoor
open Go.RowKit Tx

set_option maxRecDepth 100000 in
set_option maxHeartbeats 4000000 in
theorem putF_own (v : Value) (l : List Wr.F) (n t : Bs) (w : World) (hr : RowC 2 ff w w.heap.size v l) (hl : l.length < 100000) (hn : n.length ≤ maxLen) (ht : t.length ≤ maxLen) :
    Calls Tryz.prog 36 #[v, .agg #[vs n, vs t]] w fun e w' => ∃ o, e = .returned (.tuple #[o, .int .i64 (putE l (n, t))]) ∧ OwnC 29 2 ff w.heap.size w' o (putL l (n, t)) ∧ Below w.heap.size w w' := by
  obtain ⟨A, cap, rfl, c1, c2, c3⟩ := hr.shape
  have hm1 := hn
  have hzt := bs_size t
  simp only [maxLen] at hn ht
  by_cases hnm : Wr.nameOk n = true
  case neg =>
    have hnm : Wr.nameOk n = false := by simpa using hnm
    have HE : Hid (putE l (n, t) = 2 ∧ putL l (n, t) = []) := Lib.hid (by unfold putE putL Wr.putF; rw [if_pos hnm]; exact ⟨rfl, rfl⟩)
    have HN := Lib.hid (fun w => rName_b n w hm1 hnm)
    clear hr c3 hnm
    go_enter Tryz.func36, Tryz.ntmps36
    go_wp2_with fail
    refine (HN.out _).mono ?_
    rintro e w1 ⟨rfl, rfl⟩
    go_wp2_with fail
    go_ret2
    exact ⟨.slice none 0 0, by rw [HE.out.1]; rfl, by rw [HE.out.2]; exact OwnC.nil _ _ _ _ _, (Below.refl _ _).alloc (Nat.le_refl _) _⟩
  case pos =>
    have HN := Lib.hid (fun w => rName_b n w hm1 hnm)
    have hb1 : Below w.heap.size w (w.alloc (.cells #[.string (bs n), .string (bs t)] 29)) := (Below.refl _ _).alloc (Nat.le_refl _) _
    obtain ⟨d0, d1⟩ := box_cells (w := w) (x := n) (y := t)
    have HRL := Lib.hid (hr.step hb1)
    have HNM := Lib.hid hnm
    clear hr c3 hnm
    obtain ⟨g0, hg0⟩ : ∃ g, g = w.heap.size := ⟨_, rfl⟩
    go_enter Tryz.func36, Tryz.ntmps36
    rw [← hg0] at d0 d1
    have HG0 := Lib.hid hg0
    go_wp2_with fail
    rw [← hg0]
    clear hg0
    generalize hwb : w.alloc (.cells #[.string (bs n), .string (bs t)] 29) = wb at *
    clear hwb
    refine (HN.out _).mono ?_
    rintro e w1 ⟨rfl, rfl⟩
    go_wp2_with fail
    refine (drop_any _ l n wb HRL.out (by omega)).mono ?_
    rintro e w2 ⟨o, rfl, ho, ⟨g, c, rfl⟩, hb2⟩
    have hle2 := hb2.size
    have hg0l : g0 < wb.heap.size := World.block_lt_of_cell? wb ⟨g0, 0, none⟩ (by rw [d0])
    have e0 := (hb2.cell (p := ⟨g0, 0, none⟩) hg0l).trans d0
    have e1 := (hb2.cell (p := ⟨g0, 1, none⟩) hg0l).trans d1
    have hgl2 : g0 < w2.heap.size := Nat.lt_of_lt_of_le hg0l hle2
    have HB2 := Lib.hid (below_via hb1 hb2)
    have hdl := dropF_le l n
    have HPF : Hid (Wr.putF l (n, t) = if 4000 < t.length ∨ (¬ (Wr.dropF l n).length < l.length ∧ 32 ≤ l.length) then .error 3 else .ok (Wr.ins (Wr.dropF l n) (n, t))) := Lib.hid (by
      unfold Wr.putF
      rw [if_neg (by simpa using HNM.out)])
    have HD := Lib.hid (ho.rowC ff_length)
    clear ho hb1 hb2 d0 d1 HN HRL HNM
    generalize Wr.dropF l n = D at *
    obtain ⟨BC, hBC⟩ : ∃ BC : Bool, BC = decide (4000 < t.length ∨ (¬ D.length < l.length ∧ 32 ≤ l.length)) := ⟨_, rfl⟩
    have HBC := Lib.hid hBC
    clear hBC
    go_upto_region 4 with fail
    go_cut [34] (fun b wx => b = .bool BC ∧ wx = w2)
    case first =>
      by_cases h1 : 4000 < t.length
      · have HT : Hid (BC = true) := Lib.hid (by rw [HBC.out]; exact decide_eq_true (.inl h1))
        have q1 : decide ((4000 : Int) < ((bs t).size : Int)) = true := decide_eq_true (by omega)
        have q2 : decide ((4000 : Int) < (t.length : Int)) = true := decide_eq_true (by omega)
        have q3 : decide (4000 < t.length) = true := decide_eq_true h1
        go_wp2_with fail
        go_meet
        exact ⟨by rw [HT.out], rfl⟩
      · have q1 : decide ((4000 : Int) < ((bs t).size : Int)) = false := decide_eq_false (by omega)
        have q2 : decide ((4000 : Int) < (t.length : Int)) = false := decide_eq_false (by omega)
        have q3 : decide (4000 < t.length) = false := decide_eq_false h1
        by_cases h2 : D.length < l.length
        · have HT : Hid (BC = false) := Lib.hid (by rw [HBC.out]; exact decide_eq_false (by omega))
          have r1 : decide (D.length < l.length) = true := decide_eq_true h2
          go_wp2_with fail
          go_meet
          exact ⟨by rw [HT.out], rfl⟩
        · have r1 : decide (D.length < l.length) = false := decide_eq_false h2
          by_cases h3 : 32 ≤ l.length
          · have HT : Hid (BC = true) := Lib.hid (by rw [HBC.out]; exact decide_eq_true (by omega))
            have s1 : decide ((32 : Int) ≤ (l.length : Int)) = true := decide_eq_true (by omega)
            have s2 : decide (32 ≤ l.length) = true := decide_eq_true h3
            go_wp2_with fail
            go_meet
            exact ⟨by rw [HT.out], rfl⟩
          · have HT : Hid (BC = false) := Lib.hid (by rw [HBC.out]; exact decide_eq_false (by omega))
            have s1 : decide ((32 : Int) ≤ (l.length : Int)) = false := decide_eq_false (by omega)
            have s2 : decide (32 ≤ l.length) = false := decide_eq_false h3
            go_wp2_with fail
            go_meet
            exact ⟨by rw [HT.out], rfl⟩
    case rest =>
      obtain ⟨rfl, hcw⟩ := hcut
      have hcw' := hcw.symm
      subst hcw'
      clear hcw
      cases BC with
      | true =>
        have hbc := of_decide_eq_true HBC.out.symm
        have HE : Hid (putE l (n, t) = 3 ∧ putL l (n, t) = []) := Lib.hid (by unfold putE putL; rw [HPF.out, if_pos hbc]; exact ⟨rfl, rfl⟩)
        clear hbc
        go_wp2_with fail
        go_ret2
        exact ⟨.slice none 0 0, by rw [HE.out.1]; rfl, by rw [HE.out.2]; exact OwnC.nil _ _ _ _ _, HB2.out⟩
      | false =>
        have hbc := of_decide_eq_false HBC.out.symm
        have HE : Hid (putE l (n, t) = 0 ∧ putL l (n, t) = Wr.ins D (n, t)) := Lib.hid (by unfold putE putL; rw [HPF.out, if_neg hbc]; exact ⟨rfl, rfl⟩)
        clear hbc HPF HBC
        obtain ⟨A', c', hsh, m1, m2, m3⟩ := HD.out.shape
        injection hsh with hsh1 hsh2 hsh3
        subst hsh1 hsh3
        have HDC := Lib.hid m3
        have hmade := OwnC.made 29 2 ff w2.heap.size w2 (Nat.le_refl _)
        have E0 := Lib.hid e0
        have E1 := Lib.hid e1
        clear m3 hsh2
        obtain ⟨B2, hB2⟩ : ∃ B, B = w2.heap.size := ⟨_, rfl⟩
        go_upto_block 0 with fail
        go_cut [8] (fun o wx => ∃ k, k ≤ D.length ∧ D.take k = D.takeWhile (fun g => Wr.less g.1 n) ∧ D.drop k = D.dropWhile (fun g => Wr.less g.1 n) ∧ OwnC 29 2 ff w2.heap.size wx o (D.take k) ∧ Som o k ∧ Below w2.heap.size w2 wx)
        case first =>
          go_wp2_with fail
          go_loopw [8, 9] (fun o i wr => ∃ k : Nat, k ≤ D.length ∧ i = .int .i64 k ∧ (∀ j, ∀ h : j < D.length, j < k → Wr.less D[j].1 n = true) ∧ OwnC 29 2 ff w2.heap.size wr o (D.take k) ∧ Som o k ∧ Below w2.heap.size w2 wr) (fun _ i _ => D.length - (RowKit.intOf i).toNat)
          case atStart => exact ⟨0, Nat.zero_le _, rfl, fun j h hj => absurd hj (Nat.not_lt_zero _), hmade, ⟨_, _, rfl⟩, (Below.refl _ _).alloc (Nat.le_refl _) _⟩
          case round =>
            clear hmade
            obtain ⟨k, hk, rfl, hls, ho, hsom, hbel⟩ := hrel
            have hle := hbel.size
            have f0 := (hbel.cell (p := ⟨g0, 0, none⟩) hgl2).trans E0.out
            have HLS := Lib.hid hls
            have HO := Lib.hid ho
            have HSM := Lib.hid hsom
            clear hls ho hsom
            by_cases hlt : k < D.length
            · obtain ⟨b, off, hbo, hbl, hc⟩ := HDC.out (by rintro rfl; simp at hlt)
              injection hbo with hbo
              injection hbo with hbo1 hbo2
              subst hbo1 hbo2
              obtain ⟨k0, k1⟩ := ff_cells (fun i u hu => (hbel.cell (p := ⟨g, 0 + k * 2 + i, none⟩) hbl).trans (hc k hlt i u hu))
              have hi : (k : Int) < (D.length : Int) := by omega
              have hi0 : (0 : Int) ≤ (k : Int) := by omega
              have HTS := Lib.hid (tw_step D n k hlt HLS.out)
              have HTK : Hid (D.take (k + 1) = D.take k ++ [D[k]]) := Lib.hid (List.take_succ_eq_append_getElem hlt)
              have HNX : Hid (Wr.less D[k].1 n = true → ∀ j, ∀ h : j < D.length, j < k + 1 → Wr.less D[j].1 n = true) := Lib.hid (fun hx j h hj => by
                by_cases hjk : j = k
                · subst hjk; exact hx
                · exact HLS.out j h (by omega))
              clear hc
              generalize D[k] = q at *
              obtain ⟨x, y⟩ := q
              simp only [Nat.zero_add] at k0 k1 HTS HTK HNX
              have hb0 : Op.bytesLess (bs x).toList (bs n).toList = Wr.less x n := by rw [toListB, toListB]
              have hkc : k < D.length := hlt
              by_cases hxl : Wr.less x n = true
              · rw [hxl] at hb0
                have HN2 := Lib.hid (HNX.out hxl)
                have hol : (D.take k).length < 1000000 := by simp; omega
                clear hxl
                go_wp2_with fail
                go_quiet (fail)
                go_wp2_with (at_builtin; refine app_file (w0 := World.drewN _ _) rfl (.tmp 52) (.tmp 57) rfl w2.heap.size _ (D.take k) (x, y) rfl wr.heap.size rfl rfl HO.out hle hol ?_; intro v' w4 h8 h9 h10)
                go_roundw
                case rel => exact ⟨k + 1, by omega, by go_num, HN2.out, by rw [HTK.out]; exact h8, by have := h8.som (by simp); rw [show (D.take k ++ [(x, y)]).length = k + 1 by simp; omega] at this; exact this, (below_drewN hbel _).trans h9⟩
                case measure => simp [RowKit.intOf]; omega
              · have hxl : Wr.less x n = false := by simpa using hxl
                rw [hxl] at hb0
                have HT2 := Lib.hid (HTS.out hxl)
                clear hxl
                go_wp2_with fail
                go_quiet (fail)
                go_wp2_with fail
                go_meet
                exact ⟨k, by omega, HT2.out.1, HT2.out.2, HO.out, HSM.out, below_drewN hbel _⟩
            · obtain rfl : k = D.length := by omega
              have HT2 := Lib.hid (tw_end D n (fun j h => HLS.out j h h))
              have hnl : ¬ (D.length : Int) < (D.length : Int) := by omega
              go_wp2_with fail
              go_quiet (fail)
              go_wp2_with fail
              go_meet
              exact ⟨D.length, Nat.le_refl _, HT2.out.1, HT2.out.2, HO.out, HSM.out, below_drewN hbel _⟩
        case rest =>
          obtain ⟨k, hk, htk, hdk, ho, ⟨g3, c3, rfl⟩, hbel⟩ := hcut
          clear hmade
          obtain ⟨w3, hw3⟩ : ∃ w', w' = wc := ⟨_, rfl⟩
          subst hw3
          have hle := hbel.size
          have f0 := (hbel.cell (p := ⟨g0, 0, none⟩) hgl2).trans E0.out
          have f1 := (hbel.cell (p := ⟨g0, 1, none⟩) hgl2).trans E1.out
          have HO := Lib.hid ho
          have HINS : Hid (Wr.ins D (n, t) = (D.take k ++ [(n, t)]) ++ D.drop k) := Lib.hid (by unfold Wr.ins; rw [← htk, ← hdk]; simp)
          have hol : (D.take k).length = k := by simp; omega
          have hkl : k < 1000000 := by omega
          have hbel3 := Lib.hid hbel
          clear ho htk hdk hbel
          go_upto_region 13 with (at_builtin; refine app_file rfl (.tmp 61) (.tmp 63) rfl w2.heap.size _ (D.take k) (n, t) rfl w3.heap.size rfl rfl HO.out hle (by omega) ?_; intro v4 w4 h8 h9 h10)
          have hb4 : Below w2.heap.size w2 w4 := hbel3.out.trans h9
          have hle4 := hb4.size
          have HR4 := Lib.hid (HD.out.below hb4 (Nat.le_refl _))
          have H8 := Lib.hid h8
          have hkI : (k : Int) ≤ (D.length : Int) := by omega
          have hkI0 : (0 : Int) ≤ (k : Int) := by omega
          have hDc : (D.length : Int) ≤ (c : Int) := by omega
          clear h8 h10
          obtain ⟨ad, had, hnews⟩ : ∃ ad, slAddr (some ⟨g, 0, none⟩) k c 2 = some ad ∧ ∀ j u, ((D.drop k).flatMap ff)[j]? = some u → w4.cell? (ad.add j) = some u := by
            by_cases hkD : k < D.length
            · refine ⟨⟨g, 0 + k * 2, none⟩, ?_, row_news HR4.out k hkD⟩
              simp only [slAddr]
              rw [if_neg (by omega)]
              simp [Addr.add_lit]
            · refine ⟨(slAddr (some ⟨g, 0, none⟩) k c 2).getD ⟨g, 0, none⟩, ?_, ?_⟩
              · simp only [slAddr]
                split <;> simp
              · intro j u hj
                rw [List.drop_of_length_le (by omega)] at hj
                simp at hj
          have HNW := Lib.hid hnews
          have HLEN : Hid (((D.drop k).flatMap ff).length = (D.length - k) * 2) := Lib.hid (by rw [flat_length ff_length]; simp)
          have HONE : Hid (∀ u ∈ (D.drop k).flatMap ff, u.oneCell' = true) := Lib.hid (fun u hu => by
            obtain ⟨f, _, hf⟩ := List.mem_flatMap.1 hu
            simp [ff] at hf
            rcases hf with rfl | rfl <;> rfl)
          obtain ⟨i0, hi0, hz0, hz1, hz2⟩ := info_parts fileInfo
          have h8l : (D.take k ++ [(n, t)]).length = k + 1 := by simp; omega
          have hsz : (k + 1) + (D.length - k) ≤ 200000 := by omega
          have HI := Lib.hid (And.intro hi0 (And.intro hz0 (And.intro hz1 hz2)))
          clear hnews hi0 hz0 hz1 hz2
          go_wp2_with (at_builtin; refine wpList_append_own _ rfl (.tmp 65) (.tmp 68) 30 rfl w2.heap.size 29 i0 _ 2 32 Tryz.underlying30 HI.out.1 HI.out.2.1 HI.out.2.2.1 HI.out.2.2.2 rfl (by decide) v4 (D.take k ++ [(n, t)]).length _ rfl H8.out ad (D.length - k) (c - k) ((D.drop k).flatMap ff) rfl HLEN.out HNW.out HONE.out (by simp only [maxLen]; omega) (by omega) hle4 ?_; intro v5 w5 h11 h12 h13)
          have h11' : OwnC 29 2 ff w2.heap.size w5 v5 ((D.take k ++ [(n, t)]) ++ D.drop k) := by
            have e : ((D.take k ++ [(n, t)]) ++ D.drop k).length = (D.take k ++ [(n, t)]).length + (D.length - k) := by simp; omega
            unfold OwnC
            rw [e, List.flatMap_append]
            exact h11
          have hb5 : Below w2.heap.size w2 w5 := hb4.trans (grown_below H8.out hle4 h12)
          go_wp2_with fail
          go_ret2
          exact ⟨v5, by rw [HE.out.1]; rfl, by rw [HE.out.2, HINS.out]; exact h11'.mono HB2.out.size, HB2.out.trans (hb5.mono HB2.out.size)⟩
set_option maxRecDepth 100000 in
set_option maxHeartbeats 4000000 in
theorem mapF_own (v : Value) (l : List Wr.F) (most bytes : Nat) (w : World) (hr : RowC 2 ff w w.heap.size v l) (ok : ∀ f ∈ l, FOk f) (hm : most ≤ 1000) (hby : bytes ≤ 100000) :
    Calls Tryz.prog 16 #[v, .int .i64 most, .int .i64 bytes] w fun e w' => ∃ o, e = .returned o ∧ OwnC 29 2 ff w.heap.size w' o (Wr.mapF l most bytes) ∧ Below w.heap.size w w' := by
  obtain ⟨A, cap, rfl, c1, c2, c3⟩ := hr.shape
  have HC := Lib.hid c3
  have OK := Lib.hid ok
  clear c3 ok hr
  have hmade := OwnC.made 29 2 ff w.heap.size w (Nat.le_refl _)
  go_enter Tryz.func16, Tryz.ntmps16
  go_wp2_with fail
  go_loopw [7, 8] (fun o i wr => ∃ k : Nat, k ≤ most ∧ k ≤ l.length ∧ i = .int .i64 k ∧ OwnC 29 2 ff w.heap.size wr o (Wr.mapF l k bytes) ∧ Below w.heap.size w wr) (fun _ i _ => most - (RowKit.intOf i).toNat)
  case atStart => exact ⟨0, Nat.zero_le _, Nat.zero_le _, rfl, hmade, (Below.refl _ _).alloc (Nat.le_refl _) _⟩
  case round =>
    clear hmade
    obtain ⟨k, hkm, hk, rfl, ho, hbel⟩ := hrel
    have hle := hbel.size
    have hol := mapF_le l k bytes
    obtain ⟨A1, cap1, rfl, _⟩ := (ho.rowC ff_length).shape
    have HO := Lib.hid ho
    clear ho
    by_cases hlt : k < l.length
    · have hi : (k : Int) < (l.length : Int) := by omega
      have hi0 : (0 : Int) ≤ (k : Int) := by omega
      by_cases hlm : k < most
      · have hi2 : (k : Int) < (most : Int) := by omega
        obtain ⟨b, off, rfl, hbl, hc⟩ := HC.out (by rintro rfl; simp at hlt)
        obtain ⟨d0, d1⟩ := ff_cells (fun i u hu => (hbel.cell (p := ⟨b, off + k * 2 + i, none⟩) hbl).trans (hc k hlt i u hu))
        have hok := OK.out _ (List.getElem_mem hlt)
        have hst := map_step l bytes k hlt
        clear hc
        generalize l[k] = f at *
        obtain ⟨x, y⟩ := f
        obtain ⟨ok1, ok2⟩ := hok
        simp only at ok1 ok2 d0 d1 hst
        have hyx := xext_minr y bytes
        have hys := bs_size y
        have hox := ok1
        simp only [maxLen] at ok2
        have j1 : (0 : Int) ≤ min ((bs y).size : Int) (bytes : Int) := by omega
        have j2 : min ((bs y).size : Int) (bytes : Int) ≤ ((bs y).size : Int) := by omega
        have hy2 : (y.take bytes).length ≤ maxLen := by simp only [maxLen]; simp; omega
        generalize y.take bytes = z at *
        generalize Wr.mapF l k bytes = M at *
        have hb1 : Below wr.heap.size wr (wr.alloc (.cells #[.string (bs x), .string (bs z)] 29)) := (Below.refl _ _).alloc (Nat.le_refl _) _
        have HP := Lib.hid (putF_own _ M x z _ ((HO.out.below hb1).rowC ff_length) (by omega) hox hy2)
        have HB1 := Lib.hid (below_via hbel hb1)
        have HB1s := hb1.size
        have HST := Lib.hid hst
        have HO1 := Lib.hid (HO.out.below hb1)
        clear hst hb1 ok1 hox hy2 hys
        go_wp2_with fail
        refine HP.out.mono ?_
        rintro e w3 ⟨o, rfl, ho, hb3⟩
        obtain ⟨A3, n3, c3, hoo⟩ : ∃ A n c, o = .slice A n c := by obtain ⟨A, c, h, _⟩ := (ho.rowC ff_length).shape; exact ⟨A, _, c, h⟩
        subst hoo
        have ho := ho.mono (Nat.le_trans hle HB1s)
        have hb4 := below_via HB1.out hb3
        by_cases he : putE M (x, z) = 0
        · have HS : Hid (Wr.mapF l (k + 1) bytes = putL M (x, z)) := Lib.hid (by rw [HST.out, if_pos he])
          rw [he]
          have HOO := Lib.hid ho
          clear ho he
          go_wp2_with fail
          go_roundw
          case rel => exact ⟨k + 1, by omega, by omega, by go_num, by rw [HS.out]; exact HOO.out, hb4⟩
          case measure => simp [RowKit.intOf]; omega
        · have HS : Hid (Wr.mapF l (k + 1) bytes = M) := Lib.hid (by rw [HST.out, if_neg he])
          have HO3 := Lib.hid (HO1.out.below hb3)
          generalize putE M (x, z) = pe at *
          have hpe : ((pe : Int) == 0) = false := by rw [beq_eq_false_iff_ne]; omega
          clear ho he
          go_wp2_with fail
          go_roundw
          case rel => exact ⟨k + 1, by omega, by omega, by go_num, by rw [HS.out]; exact HO3.out, hb4⟩
          case measure => simp [RowKit.intOf]; omega
      · obtain rfl : k = most := by omega
        have q1 : decide ((k : Int) < (k : Int)) = false := decide_eq_false (by omega)
        go_wp2_with fail
        go_ret
        exact ⟨_, rfl, HO.out, hbel⟩
    · have hi : (l.length : Int) ≤ (k : Int) := by omega
      have HE : Hid (Wr.mapF l most bytes = Wr.mapF l k bytes) := Lib.hid (by rw [map_end l bytes most (by omega)]; congr 1; omega)
      go_wp2_with fail
      go_ret
      exact ⟨_, rfl, by rw [HE.out]; exact HO.out, hbel⟩
end Go.Proofs.YtkoegbjnhoecoaaGreatDoor
