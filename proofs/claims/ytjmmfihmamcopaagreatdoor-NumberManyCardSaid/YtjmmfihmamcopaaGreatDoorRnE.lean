/- The reference's work: head. -/
import Derived.Test.YtjmmfihmamcopaaGreatDoorRnP
import Derived.Test.YtjmmfihmamcopaaGreatDoorAppRow
namespace Go.Proofs.YtjmmfihmamcopaaGreatDoor
open Go.RowKit Tx Nb

theorem rhInfo0 : (Tryz.prog.info? 86).map (fun i => (i.zero, i.size, i.bytes)) = some (some (.agg #[.int .i64 0, .string ⟨#[]⟩, .string ⟨#[]⟩, .int .i64 0]), 4, 48) := by kernel_rfl
namespace Nb
theorem headNum_close (s : St) (x : It) : headNum (Nb.close s) x = { headNum s x with flows := false, op := false } := by
  unfold headNum
  split <;> rfl
theorem headNum_words (s : St) (x : It) : (headNum s x).words = s.c.words := by unfold headNum; split <;> rfl
theorem rhead_eq (s : St) (lv : Int) (t : Bs) (hlv : lv = 1 ∨ lv = 2) (h : ¬ 100 ≤ s.heads.length) :
    Nb.head s ⟨lv + 3, t⟩ = Nb.close (Nb.block { s with ha := s.ha ++ [(s.c.words : Int)], heads := s.heads ++ [⟨lv, (headNum s ⟨lv + 3, t⟩).last, t, 0⟩], c := headNum s ⟨lv + 3, t⟩ } 1 ((headNum s ⟨lv + 3, t⟩).last :: spl t)) := by
  have h1 : (if lv + 3 = 4 then (1 : Int) else 2) = lv := by split <;> omega
  have h2 := headNum_words s ⟨lv + 3, t⟩
  unfold Nb.head
  rw [if_neg h]
  simp only [headNum_close, h1]
  generalize headNum s ⟨lv + 3, t⟩ = c at *
  simp only [Nb.block, Nb.close, h2]
end Nb
section
variable {B wb : Nat} {w0 w : World} {k : RCst} {s : St}
/-- The numbers of a heading. -/
def HeadPost (B : Nat) (w0 : World) (wb : Nat) (k : RCst) (s : St) (lv : Int) (t : Bs) (wx : World) : Prop := Ri B w0 wx wb k { s with c := headNum s ⟨lv + 3, t⟩ }
set_option maxRecDepth 100000 in
set_option maxHeartbeats 32000000 in
theorem rhead_any (h : Ri B w0 w wb k s) (T : Nat) (hT : T ≤ 800000) (hd : Bd s T) (lv : Int) (t : Bs) (hlv : lv = 1 ∨ lv = 2) (ht : t.length ≤ 100) :
    Calls Tryz.prog 37 #[.pointer (some ⟨wb, 0, none⟩), .int .i64 lv, vs t] w fun e' w' => e' = .returned (.tuple #[]) ∧ Ri B w0 w' wb k (Nb.head s ⟨lv + 3, t⟩) := by
  have HK1 := Lib.hid h
  have hl1 := hd.hd
  have hl2 := hd.ha
  have hl3 := hd.wo
  have hl4 := hd.sc
  have hl5 := hd.su
  have hl6 := hd.bl
  obtain ⟨v, hv⟩ := h
  obtain ⟨A1, c1, hv2⟩ : ∃ A c, v 2 = .slice A s.heads.length c := own_slice (hv.ow.own 2 (by omega))
  have y2 : w.cell? ⟨wb, 2, none⟩ = some (.slice A1 s.heads.length c1) := (hv.cell 2).trans (by rw [← hv2]; rfl)
  have HNT := Lib.hid (rnote_any HK1.out 3 t (by have := hd.nt; omega))
  have y17 : w.cell? ⟨wb, 17, none⟩ = some (.int .i64 s.c.sec) := hv.cell 17
  have y18 : w.cell? ⟨wb, 18, none⟩ = some (.int .i64 s.c.sub) := hv.cell 18
  by_cases h100 : 100 ≤ s.heads.length
  · have h1i : (100 : Int) ≤ (s.heads.length : Int) := by omega
    have HR : Hid (Nb.head s ⟨lv + 3, t⟩ = Nb.note s 3 t) := Lib.hid (by unfold Nb.head; rw [if_pos h100])
    clear hd hv hv2 h100
    go_enter Tryz.func37, Tryz.ntmps37
    go_wp2_with fail
    refine HNT.out.mono ?_
    rintro e w2 ⟨rfl, H2⟩
    have HK2 := Lib.hid H2
    clear H2
    go_wp2_with fail
    refine bodyPost_ret (results_none rfl _ _ _) rfl ?_
    exact ⟨rfl, by rw [HR.out]; exact HK2.out⟩
  · have h1i : ¬ ((100 : Int) ≤ (s.heads.length : Int)) := by omega
    have HR := Lib.hid (rhead_eq s lv t hlv h100)
    have HWO := Lib.hid (headNum_words s ⟨lv + 3, t⟩)
    have HLV := Lib.hid hlv
    clear hd hv hv2 h100 hlv
    go_enter Tryz.func37, Tryz.ntmps37
    go_upto_if 19 with fail
    go_cut [] from 18 to 64 (fun wx => HeadPost B w0 wb k s lv t wx)
    case first =>
      rcases HLV.out with h4 | h4
      · have h4b : (lv == 1) = true := by simp [h4]
        have HNM : Hid (headNum s ⟨lv + 3, t⟩ = { s.c with sec := s.c.sec + 1, sub := 0, last := dig (s.c.sec + 1 : Nat) }) := Lib.hid (by unfold headNum; rw [if_pos (by simp only; omega)])
        have HMR := Lib.hid (rmore_any (wb := wb) s.c.sec (by omega) [115, 101, 99, 116, 105, 111, 110] w)
        obtain ⟨n1, hn1⟩ : ∃ n1, n1 = s.c.sec + 1 := ⟨_, rfl⟩
        have hn2 : n1 ≤ 999999 := by omega
        rw [← hn1] at HMR HNM
        clear h4 hn1
        go_wp2_with fail
        refine HMR.out.mono ?_
        rintro e w3 ⟨rfl, rfl⟩
        have HK4 := Lib.hid (HK1.out.sec n1)
        have HK5 := Lib.hid (HK4.out.sub 0)
        have f17 := HK1.out.cells.2 17
        have f18 := HK4.out.cells.2 18
        have z18 := HK4.out.cells.1.2.2.2.2.1
        have x17 := HK5.out.cells.1.2.2.2.1
        have HTX := Lib.hid (rDig_any n1 hn2 ((w3.setCell ⟨wb, 17, none⟩ (.int .i64 n1)).setCell ⟨wb, 18, none⟩ (.int .i64 0)))
        simp only at z18 x17
        go_wp2_with fail
        refine HTX.out.mono ?_
        rintro e w6 ⟨rfl, b6⟩
        have HK6 := Lib.hid (HK5.out.below b6)
        have f21 := HK6.out.cells.2 21
        have y21 := HK6.out.cells.1.2.2.2.2.2
        simp only at y21
        clear b6 z18 x17 f17 f18 y17 y18
        go_wp2_with fail
        go_meet
        have h9 := HK6.out.last (dig n1)
        unfold HeadPost
        rw [HNM.out]
        exact h9
      · have h4b : (lv == 1) = false := by simp [h4]
        have HNM : Hid (headNum s ⟨lv + 3, t⟩ = { s.c with sub := s.c.sub + 1, last := dig s.c.sec ++ 46 :: dig (s.c.sub + 1 : Nat) }) := Lib.hid (by unfold headNum; rw [if_neg (by simp only; omega)])
        have HMR := Lib.hid (rmore_any (wb := wb) s.c.sub (by omega) [115, 117, 98] w)
        obtain ⟨n1, hn1⟩ : ∃ n1, n1 = s.c.sub + 1 := ⟨_, rfl⟩
        have hn2 : n1 ≤ 999999 := by omega
        rw [← hn1] at HMR HNM
        clear h4 hn1
        go_wp2_with fail
        refine HMR.out.mono ?_
        rintro e w3 ⟨rfl, rfl⟩
        have HK4 := Lib.hid (HK1.out.sub n1)
        have f18 := HK1.out.cells.2 18
        go_upto_region 7 with fail
        obtain ⟨w4, hw4⟩ : ∃ w4, w4 = w3.setCell ⟨wb, 18, none⟩ (.int .i64 n1) := ⟨_, rfl⟩
        have hK4 := HK4.out
        rw [← hw4] at hK4 ⊢
        have HK5 := Lib.hid hK4
        clear f18 hw4 HK4 y17 y18
        obtain ⟨d1, hd1⟩ : ∃ d1, d1 = dig s.c.sec := ⟨_, rfl⟩
        obtain ⟨d2, hd2⟩ : ∃ d2, d2 = dig n1 := ⟨_, rfl⟩
        have hdl1 := dig_len6 s.c.sec
        have hdl2 := dig_len6 n1
        have o1 : bs d1 ++ (⟨#[46]⟩ : ByteArray) = bs (d1 ++ [46]) := by show bs d1 ++ bs [46] = _; rw [bs_append]
        have o2 : bs (d1 ++ [46]) ++ bs d2 = bs (d1 ++ 46 :: d2) := by rw [bs_append]; simp
        have l1 : (bs d1).size = d1.length := bs_size _
        have l2 : (bs (d1 ++ [46])).size = d1.length + 1 := by rw [bs_size]; simp
        have l3 : (bs d2).size = d2.length := bs_size _
        have HT1 := Lib.hid (fun wx => rDig_any s.c.sec (by omega) wx)
        have HT2 := Lib.hid (fun wx => rDig_any n1 hn2 wx)
        rw [← hd1] at HT1 HNM hdl1
        rw [← hd2] at HT2 HNM hdl2
        have g1 : ¬ (9223372036854775807 < d1.length + 1) := by omega
        have g2 : ¬ (9223372036854775807 < d1.length + 1 + d2.length) := by omega
        clear hd1 hd2
        have HS4 := Lib.hid (fun wx (hb : Below w4.heap.size w4 wx) => (⟨(HK5.out.below hb).cells.1.2.2.2.1, (HK5.out.below hb).cells.1.2.2.2.2.1⟩ : (fun wz : World => wz.cell? ⟨wb, 17, none⟩ = some (.int .i64 s.c.sec) ∧ wz.cell? ⟨wb, 18, none⟩ = some (.int .i64 n1)) wx))
        have hb0 : Below w4.heap.size w4 w4.drew := (Below.refl _ _).drew
        have hS0 : (fun wz : World => wz.cell? ⟨wb, 17, none⟩ = some (.int .i64 s.c.sec) ∧ wz.cell? ⟨wb, 18, none⟩ = some (.int .i64 n1)) w4.drew := HS4.out _ hb0
        clear hK4
        refine wp_region_headS 13 (fun wz : World => wz.cell? ⟨wb, 17, none⟩ = some (.int .i64 s.c.sec) ∧ wz.cell? ⟨wb, 18, none⟩ = some (.int .i64 n1)) (by kernel_rfl) (by kernel_rfl) ?_
        refine WS_take (i := 0) (v := ?vp0) (by simp only [List.getElem?_toArray, List.getElem?_cons_zero]; rfl) (by decide) (by kernel_rfl) (by kernel_rfl) (by intro _ _ _ h; exact h) (Or.inl ⟨by rfl, ?hyp0⟩) hS0 ?restp0
        case hyp0 =>
          intro wx hx
          obtain ⟨s1, s2⟩ := hx
          go_simp
          try with_reducible rfl
        try simp only [Act.put, List.setIfInBounds_toArray, List.set_cons_zero, List.set_cons_succ]
        refine WS_take (i := 1) (v := ?vp1) (by simp only [List.getElem?_toArray, List.getElem?_cons_succ, List.getElem?_cons_zero]; rfl) (by decide) (by kernel_rfl) (by kernel_rfl) (by intro _ _ _ h; exact h) (Or.inl ⟨by rfl, ?hyp1⟩) hS0 ?restp1
        case hyp1 =>
          intro wx hx
          obtain ⟨s1, s2⟩ := hx
          go_simp
          try with_reducible rfl
        try simp only [Act.put, List.setIfInBounds_toArray, List.set_cons_zero, List.set_cons_succ]
        refine WS_take (i := 2) (v := ?vp2) (by simp only [List.getElem?_toArray, List.getElem?_cons_succ, List.getElem?_cons_zero]; rfl) (by decide) (by kernel_rfl) (by kernel_rfl) (by intro _ _ _ h; exact h) (Or.inl ⟨by rfl, ?hyp2⟩) hS0 ?restp2
        case hyp2 =>
          intro wx hx
          obtain ⟨s1, s2⟩ := hx
          go_simp
          try with_reducible rfl
        try simp only [Act.put, List.setIfInBounds_toArray, List.set_cons_zero, List.set_cons_succ]
        refine WS_take (i := 3) (v := ?vp3) (by simp only [List.getElem?_toArray, List.getElem?_cons_succ, List.getElem?_cons_zero]; rfl) (by decide) (by kernel_rfl) (by kernel_rfl) (by intro _ _ _ h; exact h) (Or.inl ⟨by rfl, ?hyp3⟩) hS0 ?restp3
        case hyp3 =>
          intro wx hx
          obtain ⟨s1, s2⟩ := hx
          go_simp
          try with_reducible rfl
        try simp only [Act.put, List.setIfInBounds_toArray, List.set_cons_zero, List.set_cons_succ]
        refine WS_take (i := 4) (v := ?vp4) (by simp only [List.getElem?_toArray, List.getElem?_cons_succ, List.getElem?_cons_zero]; rfl) (by decide) (by kernel_rfl) (by kernel_rfl) (by intro _ _ _ h; exact h) (Or.inl ⟨by rfl, ?hyp4⟩) hS0 ?restp4
        case hyp4 =>
          intro wx hx
          obtain ⟨s1, s2⟩ := hx
          go_simp
          try with_reducible rfl
        try simp only [Act.put, List.setIfInBounds_toArray, List.set_cons_zero, List.set_cons_succ]
        refine WS_take (i := 7) (v := ?vp7) (by simp only [List.getElem?_toArray, List.getElem?_cons_succ, List.getElem?_cons_zero]; rfl) (by decide) (by kernel_rfl) (by kernel_rfl) (by intro _ _ _ h; exact h) (Or.inl ⟨by rfl, ?hyp7⟩) hS0 ?restp7
        case hyp7 =>
          intro wx hx
          obtain ⟨s1, s2⟩ := hx
          go_simp
          try with_reducible rfl
        try simp only [Act.put, List.setIfInBounds_toArray, List.set_cons_zero, List.set_cons_succ]
        refine WS_take (i := 8) (v := ?vp8) (by simp only [List.getElem?_toArray, List.getElem?_cons_succ, List.getElem?_cons_zero]; rfl) (by decide) (by kernel_rfl) (by kernel_rfl) (by intro _ _ _ h; exact h) (Or.inl ⟨by rfl, ?hyp8⟩) hS0 ?restp8
        case hyp8 =>
          intro wx hx
          obtain ⟨s1, s2⟩ := hx
          go_simp
          try with_reducible rfl
        try simp only [Act.put, List.setIfInBounds_toArray, List.set_cons_zero, List.set_cons_succ]
        refine WS_take (i := 9) (v := ?vp9) (by simp only [List.getElem?_toArray, List.getElem?_cons_succ, List.getElem?_cons_zero]; rfl) (by decide) (by kernel_rfl) (by kernel_rfl) (by intro _ _ _ h; exact h) (Or.inl ⟨by rfl, ?hyp9⟩) hS0 ?restp9
        case hyp9 =>
          intro wx hx
          obtain ⟨s1, s2⟩ := hx
          go_simp
          try with_reducible rfl
        try simp only [Act.put, List.setIfInBounds_toArray, List.set_cons_zero, List.set_cons_succ]
        refine WS_take (i := 10) (v := ?vp10) (by simp only [List.getElem?_toArray, List.getElem?_cons_succ, List.getElem?_cons_zero]; rfl) (by decide) (by kernel_rfl) (by kernel_rfl) (by intro _ _ _ h; exact h) (Or.inl ⟨by rfl, ?hyp10⟩) hS0 ?restp10
        case hyp10 =>
          intro wx hx
          obtain ⟨s1, s2⟩ := hx
          go_simp
          try with_reducible rfl
        try simp only [Act.put, List.setIfInBounds_toArray, List.set_cons_zero, List.set_cons_succ]
        refine WS_one (i := 5) (by simp only [List.getElem?_toArray, List.getElem?_cons_succ, List.getElem?_cons_zero]; rfl) (by decide) (by kernel_rfl) (fun K hK => (if_pos (by kernel_rfl)).mpr ?_)
        go_simp
        refine (HT1.out _).mono ?_
        rintro e w5 ⟨rfl, b5⟩
        dsimp only
        have hb5 := hb0.trans (b5.mono hb0.size)
        have hS5 := HS4.out _ hb5
        refine hK _ _ hS5 ?_
        clear hK K hS0 b5 hb0
        try simp only [Act.put, List.setIfInBounds_toArray, List.set_cons_zero, List.set_cons_succ]
        refine WS_take (i := 6) (v := ?vp6) (by simp only [List.getElem?_toArray, List.getElem?_cons_succ, List.getElem?_cons_zero]; rfl) (by decide) (by kernel_rfl) (by kernel_rfl) (by intro _ _ _ h; exact h) (Or.inl ⟨by rfl, ?hyp6⟩) hS5 ?restp6
        case hyp6 =>
          intro wx hx
          obtain ⟨s1, s2⟩ := hx
          go_simp
          try with_reducible rfl
        try simp only [Act.put, List.setIfInBounds_toArray, List.set_cons_zero, List.set_cons_succ]
        refine WS_one (i := 11) (by simp only [List.getElem?_toArray, List.getElem?_cons_succ, List.getElem?_cons_zero]; rfl) (by decide) (by kernel_rfl) (fun K hK => (if_pos (by kernel_rfl)).mpr ?_)
        go_simp
        refine (HT2.out _).mono ?_
        rintro e w6 ⟨rfl, b6⟩
        dsimp only
        have hb6 := hb5.trans (b6.mono hb5.size)
        have hS6 := HS4.out _ hb6
        have HK6 := Lib.hid (HK5.out.below hb6)
        refine hK _ _ hS6 ?_
        clear hK K hS5 b6 hb5
        try simp only [Act.put, List.setIfInBounds_toArray, List.set_cons_zero, List.set_cons_succ]
        refine WS_take (i := 12) (v := ?vp12) (by simp only [List.getElem?_toArray, List.getElem?_cons_succ, List.getElem?_cons_zero]; rfl) (by decide) (by kernel_rfl) (by kernel_rfl) (by intro _ _ _ h; exact h) (Or.inl ⟨by rfl, ?hyp12⟩) hS6 ?restp12
        case hyp12 =>
          intro wx hx
          obtain ⟨s1, s2⟩ := hx
          go_simp
          try with_reducible rfl
        try simp only [Act.put, List.setIfInBounds_toArray, List.set_cons_zero, List.set_cons_succ]
        refine WS_done (by kernel_rfl) ?_
        simp only [List.drop_succ_cons, List.drop_zero]
        have f21 := HK6.out.cells.2 21
        have y21 := HK6.out.cells.1.2.2.2.2.2
        simp only at y21
        clear hb6 hS6
        go_wp2_with fail
        go_meet
        have h9 := HK6.out.last (d1 ++ 46 :: d2)
        unfold HeadPost
        rw [HNM.out]
        exact h9
    case rest =>
      unfold HeadPost at hcut
      obtain ⟨hC, hhC⟩ : ∃ hC, hC = headNum s ⟨lv + 3, t⟩ := ⟨_, rfl⟩
      rw [← hhC] at hcut HR HWO
      obtain ⟨W, hW⟩ : ∃ W, W = wc := ⟨_, rfl⟩
      subst hW
      have hword := HWO.out
      have HC0 := Lib.hid hcut
      obtain ⟨v5, hw5⟩ := hcut
      obtain ⟨A5, c5, hv5⟩ : ∃ A c, v5 6 = .slice A s.ha.length c := own_slice (hw5.ow.own 6 (by omega))
      have z5 : W.cell? ⟨wb, 6, none⟩ = some (.slice A5 s.ha.length c5) := (hw5.cell 6).trans (by rw [← hv5]; rfl)
      have z16 : W.cell? ⟨wb, 16, none⟩ = some (.int .i64 s.c.words) := by rw [← hword]; exact hw5.cell 16
      have HV5 := Lib.hid hv5
      have hbd : Below W.heap.size W (W.drew.alloc (.cells #[.int .i64 s.c.words] 3)) := ((Below.refl W.heap.size W).drew).alloc (Nat.le_refl _) _
      have hW1 := hw5.below hbd
      have HW2 := Lib.hid hW1
      have HD2 := Lib.hid (heap_alloc_new W.drew (.cells #[.int .i64 s.c.words] 3))
      have hS0 : (fun wz : World => wz.cell? ⟨wb, 6, none⟩ = some (.slice A5 s.ha.length c5) ∧ wz.cell? ⟨wb, 16, none⟩ = some (.int .i64 s.c.words)) W.drew := ⟨z5, z16⟩
      have hS1 : (fun wz : World => wz.cell? ⟨wb, 6, none⟩ = some (.slice A5 s.ha.length c5) ∧ wz.cell? ⟨wb, 16, none⟩ = some (.int .i64 s.c.words)) (W.drew.alloc (.cells #[.int .i64 s.c.words] 3)) := ⟨(hW1.cell 6).trans (by rw [← hv5]; rfl), (hW1.cell 16).trans (by rw [← hword]; rfl)⟩
      obtain ⟨i5, hi0, hz0, hz1, hz2⟩ := info_parts intInfo
      clear hW1 hbd hv5 hw5 hhC y2 y17 y18 hword
      go_upto_region 8 with fail
      refine wp_region_headS 12 (fun wz : World => wz.cell? ⟨wb, 6, none⟩ = some (.slice A5 s.ha.length c5) ∧ wz.cell? ⟨wb, 16, none⟩ = some (.int .i64 s.c.words)) (by kernel_rfl) (by kernel_rfl) ?_
      refine WS_take (i := 0) (v := ?vh0) (by simp only [List.getElem?_toArray, List.getElem?_cons_zero]; rfl) (by decide) (by kernel_rfl) (by kernel_rfl) (by intro _ _ _ h; exact h) (Or.inl ⟨by rfl, ?hyh0⟩) hS0 ?resth0
      case hyh0 =>
        intro wx hx
        obtain ⟨s1, s2⟩ := hx
        go_simp
        try with_reducible rfl
      try simp only [Act.put, List.setIfInBounds_toArray, List.set_cons_zero, List.set_cons_succ]
      refine WS_take (i := 1) (v := ?vh1) (by simp only [List.getElem?_toArray, List.getElem?_cons_succ, List.getElem?_cons_zero]; rfl) (by decide) (by kernel_rfl) (by kernel_rfl) (by intro _ _ _ h; exact h) (Or.inl ⟨by rfl, ?hyh1⟩) hS0 ?resth1
      case hyh1 =>
        intro wx hx
        obtain ⟨s1, s2⟩ := hx
        go_simp
        try with_reducible rfl
      try simp only [Act.put, List.setIfInBounds_toArray, List.set_cons_zero, List.set_cons_succ]
      refine WS_take (i := 2) (v := ?vh2) (by simp only [List.getElem?_toArray, List.getElem?_cons_succ, List.getElem?_cons_zero]; rfl) (by decide) (by kernel_rfl) (by kernel_rfl) (by intro _ _ _ h; exact h) (Or.inl ⟨by rfl, ?hyh2⟩) hS0 ?resth2
      case hyh2 =>
        intro wx hx
        obtain ⟨s1, s2⟩ := hx
        go_simp
        try with_reducible rfl
      try simp only [Act.put, List.setIfInBounds_toArray, List.set_cons_zero, List.set_cons_succ]
      refine WS_take (i := 3) (v := ?vh3) (by simp only [List.getElem?_toArray, List.getElem?_cons_succ, List.getElem?_cons_zero]; rfl) (by decide) (by kernel_rfl) (by kernel_rfl) (by intro _ _ _ h; exact h) (Or.inl ⟨by rfl, ?hyh3⟩) hS0 ?resth3
      case hyh3 =>
        intro wx hx
        obtain ⟨s1, s2⟩ := hx
        go_simp
        try with_reducible rfl
      try simp only [Act.put, List.setIfInBounds_toArray, List.set_cons_zero, List.set_cons_succ]
      refine WS_take (i := 4) (v := ?vh4) (by simp only [List.getElem?_toArray, List.getElem?_cons_succ, List.getElem?_cons_zero]; rfl) (by decide) (by kernel_rfl) (by kernel_rfl) (by intro _ _ _ h; exact h) (Or.inl ⟨by rfl, ?hyh4⟩) hS0 ?resth4
      case hyh4 =>
        intro wx hx
        obtain ⟨s1, s2⟩ := hx
        go_simp
        try with_reducible rfl
      try simp only [Act.put, List.setIfInBounds_toArray, List.set_cons_zero, List.set_cons_succ]
      refine WS_take (i := 5) (v := ?vh5) (by simp only [List.getElem?_toArray, List.getElem?_cons_succ, List.getElem?_cons_zero]; rfl) (by decide) (by kernel_rfl) (by kernel_rfl) (by intro _ _ _ h; exact h) (Or.inl ⟨by rfl, ?hyh5⟩) hS0 ?resth5
      case hyh5 =>
        intro wx hx
        obtain ⟨s1, s2⟩ := hx
        go_simp
        try with_reducible rfl
      try simp only [Act.put, List.setIfInBounds_toArray, List.set_cons_zero, List.set_cons_succ]
      refine WS_take (i := 6) (v := ?vh6) (by simp only [List.getElem?_toArray, List.getElem?_cons_succ, List.getElem?_cons_zero]; rfl) (by decide) (by kernel_rfl) (by kernel_rfl) (by intro _ _ _ h; exact h) (Or.inl ⟨by rfl, ?hyh6⟩) hS0 ?resth6
      case hyh6 =>
        intro wx hx
        obtain ⟨s1, s2⟩ := hx
        go_simp
        try with_reducible rfl
      try simp only [Act.put, List.setIfInBounds_toArray, List.set_cons_zero, List.set_cons_succ]
      refine WS_take (i := 7) (v := ?vh7) (by simp only [List.getElem?_toArray, List.getElem?_cons_succ, List.getElem?_cons_zero]; rfl) (by decide) (by kernel_rfl) (by kernel_rfl) (by intro _ _ _ h; exact h) (Or.inl ⟨by rfl, ?hyh7⟩) hS0 ?resth7
      case hyh7 =>
        intro wx hx
        obtain ⟨s1, s2⟩ := hx
        go_simp
        try with_reducible rfl
      try simp only [Act.put, List.setIfInBounds_toArray, List.set_cons_zero, List.set_cons_succ]
      refine WS_take (i := 8) (v := ?vh8) (by simp only [List.getElem?_toArray, List.getElem?_cons_succ, List.getElem?_cons_zero]; rfl) (by decide) (by kernel_rfl) (by kernel_rfl) (by intro _ _ _ h; exact h) (Or.inl ⟨by rfl, ?hyh8⟩) hS0 ?resth8
      case hyh8 =>
        intro wx hx
        obtain ⟨s1, s2⟩ := hx
        go_simp
        try with_reducible rfl
      try simp only [Act.put, List.setIfInBounds_toArray, List.set_cons_zero, List.set_cons_succ]
      refine WS_take (i := 9) (v := ?vh9) (by simp only [List.getElem?_toArray, List.getElem?_cons_succ, List.getElem?_cons_zero]; rfl) (by decide) (by kernel_rfl) (by kernel_rfl) (by intro _ _ _ h; exact h) (Or.inl ⟨by rfl, ?hyh9⟩) hS0 ?resth9
      case hyh9 =>
        intro wx hx
        obtain ⟨s1, s2⟩ := hx
        go_simp
        try with_reducible rfl
      try simp only [Act.put, List.setIfInBounds_toArray, List.set_cons_zero, List.set_cons_succ]
      refine WS_one (i := 10) (by simp only [List.getElem?_toArray, List.getElem?_cons_succ, List.getElem?_cons_zero]; rfl) (by decide) (by kernel_rfl) (fun K hK => (if_pos (by kernel_rfl)).mpr ?_)
      go_simp
      refine hK _ _ hS1 ?_
      clear hK K
      try simp only [Act.put, List.setIfInBounds_toArray, List.set_cons_zero, List.set_cons_succ]
      refine WS_one (i := 11) (by simp only [List.getElem?_toArray, List.getElem?_cons_succ, List.getElem?_cons_zero]; rfl) (by decide) (by kernel_rfl) (fun K hK => step_appB (by rfl) (.tmp 69) (.tmp 74) 37 (by rfl) B 3 i5 _ 1 8 Tryz.underlying37 hi0 hz0 hz1 hz2 (by rfl) (by decide) (.slice A5 s.ha.length c5) s.ha.length (s.ha.flatMap inF) (inF (s.c.words : Int)) rfl (by simp [inF, Value.oneCell']) (by rfl) W.drew.heap.size (by rfl) HD2.out (HV5.out ▸ HW2.out.ow.own 6 (by omega)) HW2.out.hB (by simp only [maxLen]; omega) (by omega) ?_)
      intro v' w' h1 h2 h3
      obtain ⟨⟨A', c', hv'⟩, hc, hf, hI⟩ := HW2.out.push (s' := { s with ha := s.ha ++ [(s.c.words : Int)], c := hC }) 6 (p := 6) (by omega) rfl rfl rfl (fun j h1 h2 h3 => by rcases twelve_cases h3 with rfl | rfl | rfl | rfl | rfl | rfl | rfl | rfl | rfl | rfl | rfl | rfl <;> first | rfl | omega) (by simpa [Desc.Is, rdesc] using h1) (by rw [HV5.out]; exact h2) (by rw [HV5.out]; exact h3)
      obtain ⟨A', n', c', rfl⟩ : ∃ A n c, v' = .slice A n c := ⟨_, _, _, hv'⟩
      clear hv'
      have hS2 : (fun wz : World => wz.cell? ⟨wb, 6, none⟩ = some (.slice A5 s.ha.length c5) ∧ wz.cell? ⟨wb, 16, none⟩ = some (.int .i64 s.c.words)) w' := ⟨(hc 6).trans (by rw [← HV5.out]; rfl), (hc 16).trans (by rw [← HWO.out]; rfl)⟩
      have ya := hc 6
      have yf := hf 6
      simp only [rcells, List.getElem?_cons_succ, List.getElem?_cons_zero] at ya
      have HIh := Lib.hid hI
      refine hK _ _ hS2 ?_
      clear hK K h1 h2 h3 hc hf hI hS2 hS0 hS1 z5 z16
      try simp only [Act.put, List.setIfInBounds_toArray, List.set_cons_zero, List.set_cons_succ]
      refine WS_done (by kernel_rfl) ?_
      simp only [List.drop_succ_cons, List.drop_zero]
      go_upto_region 9 with fail
      obtain ⟨WX, hWX⟩ : ∃ WX, WX = w'.setCell ⟨wb, 6, none⟩ (.slice A' n' c') := ⟨_, rfl⟩
      have hI1 := HIh.out
      rw [← hWX] at hI1 ⊢
      have HI1 := Lib.hid hI1
      clear ya yf HIh HW2 HD2 HV5 hWX
      obtain ⟨v2, hw2⟩ := hI1
      obtain ⟨A2, c2, hv2⟩ : ∃ A c, v2 2 = .slice A s.heads.length c := own_slice (hw2.ow.own 2 (by omega))
      have z2 : WX.cell? ⟨wb, 2, none⟩ = some (.slice A2 s.heads.length c2) := (hw2.cell 2).trans (by rw [← hv2]; rfl)
      have z21 : WX.cell? ⟨wb, 21, none⟩ = some (vs hC.last) := hw2.cell 21
      have HV2 := Lib.hid hv2
      have hbd : Below WX.heap.size WX (WX.drew.alloc (.cells #[.int .i64 lv, vs hC.last, vs t, .int .i64 0] 86)) := ((Below.refl WX.heap.size WX).drew).alloc (Nat.le_refl _) _
      have hW1 := hw2.below hbd
      have HW3 := Lib.hid hW1
      have HD3 := Lib.hid (heap_alloc_new WX.drew (.cells #[.int .i64 lv, vs hC.last, vs t, .int .i64 0] 86))
      have hS0 : (fun wz : World => wz.cell? ⟨wb, 2, none⟩ = some (.slice A2 s.heads.length c2) ∧ wz.cell? ⟨wb, 21, none⟩ = some (vs hC.last)) WX.drew := ⟨z2, z21⟩
      have hS1 : (fun wz : World => wz.cell? ⟨wb, 2, none⟩ = some (.slice A2 s.heads.length c2) ∧ wz.cell? ⟨wb, 21, none⟩ = some (vs hC.last)) (WX.drew.alloc (.cells #[.int .i64 lv, vs hC.last, vs t, .int .i64 0] 86)) := ⟨(hW1.cell 2).trans (by rw [← hv2]; rfl), hW1.cell 21⟩
      obtain ⟨i6, hi0, hz0, hz1, hz2⟩ := info_parts rhInfo0
      clear hW1 hbd hv2 hw2
      refine wp_region_headS 16 (fun wz : World => wz.cell? ⟨wb, 2, none⟩ = some (.slice A2 s.heads.length c2) ∧ wz.cell? ⟨wb, 21, none⟩ = some (vs hC.last)) (by kernel_rfl) (by kernel_rfl) ?_
      refine WS_take (i := 0) (v := ?vd0) (by simp only [List.getElem?_toArray, List.getElem?_cons_zero]; rfl) (by decide) (by kernel_rfl) (by kernel_rfl) (by intro _ _ _ h; exact h) (Or.inl ⟨by rfl, ?hyd0⟩) hS0 ?restd0
      case hyd0 =>
        intro wx hx
        obtain ⟨s1, s2⟩ := hx
        go_simp
        try with_reducible rfl
      try simp only [Act.put, List.setIfInBounds_toArray, List.set_cons_zero, List.set_cons_succ]
      refine WS_take (i := 1) (v := ?vd1) (by simp only [List.getElem?_toArray, List.getElem?_cons_succ, List.getElem?_cons_zero]; rfl) (by decide) (by kernel_rfl) (by kernel_rfl) (by intro _ _ _ h; exact h) (Or.inl ⟨by rfl, ?hyd1⟩) hS0 ?restd1
      case hyd1 =>
        intro wx hx
        obtain ⟨s1, s2⟩ := hx
        go_simp
        try with_reducible rfl
      try simp only [Act.put, List.setIfInBounds_toArray, List.set_cons_zero, List.set_cons_succ]
      refine WS_take (i := 2) (v := ?vd2) (by simp only [List.getElem?_toArray, List.getElem?_cons_succ, List.getElem?_cons_zero]; rfl) (by decide) (by kernel_rfl) (by kernel_rfl) (by intro _ _ _ h; exact h) (Or.inl ⟨by rfl, ?hyd2⟩) hS0 ?restd2
      case hyd2 =>
        intro wx hx
        obtain ⟨s1, s2⟩ := hx
        go_simp
        try with_reducible rfl
      try simp only [Act.put, List.setIfInBounds_toArray, List.set_cons_zero, List.set_cons_succ]
      refine WS_take (i := 3) (v := ?vd3) (by simp only [List.getElem?_toArray, List.getElem?_cons_succ, List.getElem?_cons_zero]; rfl) (by decide) (by kernel_rfl) (by kernel_rfl) (by intro _ _ _ h; exact h) (Or.inl ⟨by rfl, ?hyd3⟩) hS0 ?restd3
      case hyd3 =>
        intro wx hx
        obtain ⟨s1, s2⟩ := hx
        go_simp
        try with_reducible rfl
      try simp only [Act.put, List.setIfInBounds_toArray, List.set_cons_zero, List.set_cons_succ]
      refine WS_take (i := 4) (v := ?vd4) (by simp only [List.getElem?_toArray, List.getElem?_cons_succ, List.getElem?_cons_zero]; rfl) (by decide) (by kernel_rfl) (by kernel_rfl) (by intro _ _ _ h; exact h) (Or.inl ⟨by rfl, ?hyd4⟩) hS0 ?restd4
      case hyd4 =>
        intro wx hx
        obtain ⟨s1, s2⟩ := hx
        go_simp
        try with_reducible rfl
      try simp only [Act.put, List.setIfInBounds_toArray, List.set_cons_zero, List.set_cons_succ]
      refine WS_take (i := 5) (v := ?vd5) (by simp only [List.getElem?_toArray, List.getElem?_cons_succ, List.getElem?_cons_zero]; rfl) (by decide) (by kernel_rfl) (by kernel_rfl) (by intro _ _ _ h; exact h) (Or.inl ⟨by rfl, ?hyd5⟩) hS0 ?restd5
      case hyd5 =>
        intro wx hx
        obtain ⟨s1, s2⟩ := hx
        go_simp
        try with_reducible rfl
      try simp only [Act.put, List.setIfInBounds_toArray, List.set_cons_zero, List.set_cons_succ]
      refine WS_take (i := 6) (v := ?vd6) (by simp only [List.getElem?_toArray, List.getElem?_cons_succ, List.getElem?_cons_zero]; rfl) (by decide) (by kernel_rfl) (by kernel_rfl) (by intro _ _ _ h; exact h) (Or.inl ⟨by rfl, ?hyd6⟩) hS0 ?restd6
      case hyd6 =>
        intro wx hx
        obtain ⟨s1, s2⟩ := hx
        go_simp
        try with_reducible rfl
      try simp only [Act.put, List.setIfInBounds_toArray, List.set_cons_zero, List.set_cons_succ]
      refine WS_take (i := 7) (v := ?vd7) (by simp only [List.getElem?_toArray, List.getElem?_cons_succ, List.getElem?_cons_zero]; rfl) (by decide) (by kernel_rfl) (by kernel_rfl) (by intro _ _ _ h; exact h) (Or.inl ⟨by rfl, ?hyd7⟩) hS0 ?restd7
      case hyd7 =>
        intro wx hx
        obtain ⟨s1, s2⟩ := hx
        go_simp
        try with_reducible rfl
      try simp only [Act.put, List.setIfInBounds_toArray, List.set_cons_zero, List.set_cons_succ]
      refine WS_take (i := 8) (v := ?vd8) (by simp only [List.getElem?_toArray, List.getElem?_cons_succ, List.getElem?_cons_zero]; rfl) (by decide) (by kernel_rfl) (by kernel_rfl) (by intro _ _ _ h; exact h) (Or.inl ⟨by rfl, ?hyd8⟩) hS0 ?restd8
      case hyd8 =>
        intro wx hx
        obtain ⟨s1, s2⟩ := hx
        go_simp
        try with_reducible rfl
      try simp only [Act.put, List.setIfInBounds_toArray, List.set_cons_zero, List.set_cons_succ]
      refine WS_take (i := 9) (v := ?vd9) (by simp only [List.getElem?_toArray, List.getElem?_cons_succ, List.getElem?_cons_zero]; rfl) (by decide) (by kernel_rfl) (by kernel_rfl) (by intro _ _ _ h; exact h) (Or.inl ⟨by rfl, ?hyd9⟩) hS0 ?restd9
      case hyd9 =>
        intro wx hx
        obtain ⟨s1, s2⟩ := hx
        go_simp
        try with_reducible rfl
      try simp only [Act.put, List.setIfInBounds_toArray, List.set_cons_zero, List.set_cons_succ]
      refine WS_take (i := 10) (v := ?vd10) (by simp only [List.getElem?_toArray, List.getElem?_cons_succ, List.getElem?_cons_zero]; rfl) (by decide) (by kernel_rfl) (by kernel_rfl) (by intro _ _ _ h; exact h) (Or.inl ⟨by rfl, ?hyd10⟩) hS0 ?restd10
      case hyd10 =>
        intro wx hx
        obtain ⟨s1, s2⟩ := hx
        go_simp
        try with_reducible rfl
      try simp only [Act.put, List.setIfInBounds_toArray, List.set_cons_zero, List.set_cons_succ]
      refine WS_take (i := 11) (v := ?vd11) (by simp only [List.getElem?_toArray, List.getElem?_cons_succ, List.getElem?_cons_zero]; rfl) (by decide) (by kernel_rfl) (by kernel_rfl) (by intro _ _ _ h; exact h) (Or.inl ⟨by rfl, ?hyd11⟩) hS0 ?restd11
      case hyd11 =>
        intro wx hx
        obtain ⟨s1, s2⟩ := hx
        go_simp
        try with_reducible rfl
      try simp only [Act.put, List.setIfInBounds_toArray, List.set_cons_zero, List.set_cons_succ]
      refine WS_take (i := 12) (v := ?vd12) (by simp only [List.getElem?_toArray, List.getElem?_cons_succ, List.getElem?_cons_zero]; rfl) (by decide) (by kernel_rfl) (by kernel_rfl) (by intro _ _ _ h; exact h) (Or.inl ⟨by rfl, ?hyd12⟩) hS0 ?restd12
      case hyd12 =>
        intro wx hx
        obtain ⟨s1, s2⟩ := hx
        go_simp
        try with_reducible rfl
      try simp only [Act.put, List.setIfInBounds_toArray, List.set_cons_zero, List.set_cons_succ]
      refine WS_take (i := 13) (v := ?vd13) (by simp only [List.getElem?_toArray, List.getElem?_cons_succ, List.getElem?_cons_zero]; rfl) (by decide) (by kernel_rfl) (by kernel_rfl) (by intro _ _ _ h; exact h) (Or.inl ⟨by rfl, ?hyd13⟩) hS0 ?restd13
      case hyd13 =>
        intro wx hx
        obtain ⟨s1, s2⟩ := hx
        go_simp
        try with_reducible rfl
      try simp only [Act.put, List.setIfInBounds_toArray, List.set_cons_zero, List.set_cons_succ]
      refine WS_one (i := 14) (by simp only [List.getElem?_toArray, List.getElem?_cons_succ, List.getElem?_cons_zero]; rfl) (by decide) (by kernel_rfl) (fun K hK => (if_pos (by kernel_rfl)).mpr ?_)
      go_simp
      refine hK _ _ hS1 ?_
      clear hK K
      try simp only [Act.put, List.setIfInBounds_toArray, List.set_cons_zero, List.set_cons_succ]
      refine WS_one (i := 15) (by simp only [List.getElem?_toArray, List.getElem?_cons_succ, List.getElem?_cons_zero]; rfl) (by decide) (by kernel_rfl) (fun K hK => step_appB (by rfl) (.tmp 85) (.tmp 93) 44 (by rfl) B 86 i6 _ 4 48 Tryz.underlying44 hi0 hz0 hz1 hz2 (by rfl) (by decide) (.slice A2 s.heads.length c2) s.heads.length (s.heads.flatMap hdF) (hdF ⟨lv, hC.last, t, 0⟩) rfl (by simp [hdF, Value.oneCell']) (by rfl) WX.drew.heap.size (by rfl) HD3.out (HV2.out ▸ HW3.out.ow.own 2 (by omega)) HW3.out.hB (by simp only [maxLen]; omega) (by omega) ?_)
      intro v' w' h1 h2 h3
      obtain ⟨⟨A', c', hv'⟩, hc, hf, hI⟩ := HW3.out.push (s' := { s with ha := s.ha ++ [(s.c.words : Int)], heads := s.heads ++ [⟨lv, hC.last, t, 0⟩], c := hC }) 2 (p := 2) (by omega) rfl rfl rfl (fun j h1 h2 h3 => by rcases twelve_cases h3 with rfl | rfl | rfl | rfl | rfl | rfl | rfl | rfl | rfl | rfl | rfl | rfl <;> first | rfl | omega) (by simpa [Desc.Is, rdesc] using h1) (by rw [HV2.out]; exact h2) (by rw [HV2.out]; exact h3)
      obtain ⟨A', n', c', rfl⟩ : ∃ A n c, v' = .slice A n c := ⟨_, _, _, hv'⟩
      clear hv'
      have hS2 : (fun wz : World => wz.cell? ⟨wb, 2, none⟩ = some (.slice A2 s.heads.length c2) ∧ wz.cell? ⟨wb, 21, none⟩ = some (vs hC.last)) w' := ⟨(hc 2).trans (by rw [← HV2.out]; rfl), hc 21⟩
      have ya := hc 2
      have yf := hf 2
      simp only [rcells, List.getElem?_cons_succ, List.getElem?_cons_zero] at ya
      have HId := Lib.hid hI
      refine hK _ _ hS2 ?_
      clear hK K h1 h2 h3 hc hf hI hS2 hS0 hS1 z2 z21
      try simp only [Act.put, List.setIfInBounds_toArray, List.set_cons_zero, List.set_cons_succ]
      refine WS_done (by kernel_rfl) ?_
      simp only [List.drop_succ_cons, List.drop_zero]
      go_upto_region 10 with fail
      obtain ⟨WY, hWY⟩ : ∃ WY, WY = w'.setCell ⟨wb, 2, none⟩ (.slice A' n' c') := ⟨_, rfl⟩
      have hI2 := HId.out
      rw [← hWY] at hI2 ⊢
      have HI2 := Lib.hid hI2
      have y21 : WY.cell? ⟨wb, 21, none⟩ = some (vs hC.last) := hI2.cells.1.2.2.2.2.2
      clear ya yf HId HW3 HD3 HV2 hWY hI2 HI1
      have HO5 := Lib.hid (rrow_own WY hC.last)
      have HB5 := Lib.hid ((Below.refl WY.heap.size WY).alloc (Nat.le_refl _) (.cells #[vs hC.last] 9))
      have HSP := Lib.hid (rsplit_any t (WY.alloc (.cells #[vs hC.last] 9)) (by omega))
      have hsl := spl_len t
      obtain ⟨ps, hps⟩ : ∃ ps, ps = spl t := ⟨_, rfl⟩
      rw [← hps] at HSP hsl HR
      clear hps
      obtain ⟨ik, hi0, hz0, hz1, hz2⟩ := info_parts strInfo
      go_wp2_with fail
      refine HSP.out.mono ?_
      rintro e w8 ⟨v8, rfl, ho8, b8⟩
      have HB8 := Lib.hid (below_via HB5.out b8)
      have HO8 := Lib.hid (HO5.out.below b8)
      have HSRC := Lib.hid (src_own ho8)
      obtain ⟨A8, c8, rfl⟩ : ∃ A c, v8 = .slice A ps.length c := own_slice ho8
      clear b8 ho8 y21
      go_wp2_with (at_builtin; refine wpList_appRow (by rfl) (.tmp 104) (.tmp 106) 25 (by rfl) WY.heap.size 9 ik _ 1 16 Tryz.underlying25 hi0 hz0 hz1 hz2 (by rfl) (by decide) _ 1 [vs hC.last] (by rfl) HO8.out HB8.out.size _ (by rfl) ps.length (ps.flatMap txF) HSRC.out (by intro y hy; obtain ⟨z, hz, hy⟩ := List.mem_flatMap.1 hy; simp only [txF, List.mem_singleton] at hy; subst hy; rfl) (by simp only [maxLen]; omega) (by omega) ?_; intro v' w9 h1 h2 h3; have HB9 := Lib.hid ((HB8.out.grown h2 HB8.out.size (fun j hj => (HO8.out.lt j hj).1)) : Below WY.heap.size WY w9); have h8 := h1; rw [Nat.add_comm] at h8; have HIW := Lib.hid (HI2.out.with (vw := v') (ws := hC.last :: ps) HB9.out h8); obtain ⟨vA, vn, vc, rfl⟩ : ∃ A n c, v' = .slice A n c := (by obtain ⟨A, c, e⟩ := own_slice h1; exact ⟨A, _, c, e⟩); clear h1 h2 h3 h8)
      refine (rblock_any HIW.out 1 (by simp only; omega) (by have := HWO.out; simp only; omega) (by simp; omega)).mono ?_
      rintro e w10 ⟨rfl, H10⟩
      have HK10 := Lib.hid H10
      clear H10
      go_wp2_with fail
      go_end0
      exact ⟨rfl, by rw [HR.out]; exact HK10.out⟩
end
end Go.Proofs.YtjmmfihmamcopaaGreatDoor
