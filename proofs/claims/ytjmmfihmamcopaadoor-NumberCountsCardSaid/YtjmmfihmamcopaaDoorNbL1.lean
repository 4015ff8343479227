/- stetlaw11.NumberCounts. -/
import Derived.Test.YtjmmfihmamcopaaDoorNbL0
namespace Go.Proofs.YtjmmfihmamcopaaDoor
open Go.RowKit Tx Nb

theorem blt {w : World} {b o : Nat} {v : Value} (h : w.cell? ⟨b, o, none⟩ = some v) : b < w.heap.size := World.block_lt_of_cell? w _ h
theorem r11dig_any (n : Nat) (h : n ≤ 999999) (w : World) : Calls Tryd.prog 16 #[.int .i64 n] w fun e w' => e = .returned (vs (dig (n : Int))) ∧ Below w.heap.size w w' := by
  rw [dig_nat n h]
  exact r11digits_any n h w
/-- The words of the first blocks. -/
def flatK (s : St) (j : Nat) : List Bs := (s.blocks.take j).flatMap (·.2)
theorem flatK_all (s : St) : flatK s s.blocks.length = flat s := by unfold flatK flat; rw [List.take_length]
theorem flat_take_len (s : St) (j : Nat) : (flatK s j).length ≤ (flat s).length := by
  have h := congrArg (fun l : List (Int × List Bs) => (l.flatMap (·.2)).length) (List.take_append_drop j s.blocks)
  simp only [List.flatMap_append, List.length_append] at h
  unfold flat flatK
  omega
theorem flat_take (s : St) (j : Nat) (h : j < s.blocks.length) : flatK s (j + 1) = flatK s j ++ s.blocks[j].2 := by
  unfold flatK
  rw [List.take_succ_eq_append_getElem h, List.flatMap_append, List.flatMap_cons, List.flatMap_nil, List.append_nil]
theorem secs_take (l : List Hd) (j : Nat) (h : j < l.length) : secs (l.take (j + 1)) = secS (secs (l.take j)) l[j] := by
  rw [List.take_succ_eq_append_getElem h, secs_snoc]
theorem secs_take_le (l : List Hd) (j : Nat) : (secs (l.take j)).1 ≤ l.length ∧ (secs (l.take j)).2 ≤ l.length := by
  have h := secs_len (l.take j)
  simp only [List.length_take] at h
  omega
theorem num_one {P' : Nat × Nat} {a bb : Nat} {x : Hd} (hn : x.num = numD P' x.level) (hs : P' = secS (a, bb) x) (hl : x.level = 1) (ha : a + 1 ≤ 999999) :
    ∃ d, x.num = d ∧ P' = (a + 1, 0) ∧ ∀ wx : World, Calls Tryd.prog 16 #[.int .i64 ((a + 1 : Nat) : Int)] wx fun e w' => e = .returned (vs d) ∧ Below wx.heap.size wx w' := by
  have h1 : P' = (a + 1, 0) := by rw [hs]; unfold secS; rw [if_pos hl]
  refine ⟨_, rfl, h1, fun wx => ?_⟩
  rw [hn, hl, h1]
  unfold numD
  rw [if_neg (by decide)]
  exact r11dig_any (a + 1) ha wx
theorem num_two {P' : Nat × Nat} {a bb : Nat} {x : Hd} (hn : x.num = numD P' x.level) (hs : P' = secS (a, bb) x) (hl : x.level = 2) (ha : a ≤ 999999) (hb : bb + 1 ≤ 999999) :
    ∃ d d2, x.num = d ++ 46 :: d2 ∧ d.length ≤ 6 ∧ d2.length ≤ 6 ∧ P' = (a, bb + 1) ∧ (∀ wx : World, Calls Tryd.prog 16 #[.int .i64 (a : Int)] wx fun e w' => e = .returned (vs d) ∧ Below wx.heap.size wx w') ∧
      ∀ wx : World, Calls Tryd.prog 16 #[.int .i64 ((bb + 1 : Nat) : Int)] wx fun e w' => e = .returned (vs d2) ∧ Below wx.heap.size wx w' := by
  have h1 : P' = (a, bb + 1) := by rw [hs]; unfold secS; rw [if_neg (by rw [hl]; decide)]
  refine ⟨dig (a : Int), dig ((bb + 1 : Nat) : Int), ?_, dig_len6 _, dig_len6 _, h1, fun wx => r11dig_any a ha wx, fun wx => r11dig_any (bb + 1) hb wx⟩
  rw [hn, hl, h1]
  unfold numD
  rw [if_pos rfl]
set_option maxRecDepth 100000 in
set_option maxHeartbeats 16000000 in
theorem counts_any {w : World} (vl : Value) (l0 : List It) (hr : RowC 2 itF w w.heap.size vl l0) (ok : ∀ x ∈ l0, x.s.length ≤ maxLen) (hg : Gl w) :
    Calls Tryd.prog 4 #[vl] w fun e w' => e = .returned (.bool true) ∧ Below w.heap.size w w' := by
  have hcut := l9cut_any vl l0 hr ok 60 (by decide)
  obtain ⟨A, c, rfl, _, hmx, z1⟩ := hr.shape
  have HCUT := Lib.hid hcut
  have HG := Lib.hid hg
  clear hcut z1 hr ok hg
  go_enter Tryd.func4, Tryd.ntmps4
  go_wp2_with fail
  refine HCUT.out.mono ?_
  rintro e w1 ⟨v1, rfl, ho1, hb1⟩
  clear HCUT
  have hL : ((l0.take 60).map itCut).length ≤ 60 := by simp; omega
  have hLx : ∀ x ∈ (l0.take 60).map itCut, x.s.length ≤ 100 := fun x hx => by
    obtain ⟨y, _, rfl⟩ := List.mem_map.1 hx
    simp only [itCut, List.length_take]
    omega
  have hN := num1_any v1 ((l0.take 60).map itCut) (ho1.rowC itF_len) (by omega) hLx (HG.out.below hb1)
  obtain ⟨hbd, hinv⟩ := run_bd E1_ok ((l0.take 60).map itCut) hLx
  have hct := run_cts E1 ((l0.take 60).map itCut)
  replace hbd := hbd.mono (show _ ≤ 60600 by omega)
  generalize run E1 ((l0.take 60).map itCut) = s at *
  have HO1 := Lib.hid ho1
  have HN := Lib.hid hN
  have HB1 := Lib.hid hb1
  have HCT := Lib.hid hct
  have HBD := Lib.hid hbd
  clear hN hb1 hct hbd hL hLx hinv ho1
  obtain ⟨A', n', c', rfl⟩ : ∃ A n c, v1 = .slice A n c := by
    obtain ⟨A, c, e⟩ := own_slice HO1.out
    exact ⟨A, _, c, e⟩
  go_wp2_with fail
  refine HN.out.mono ?_
  rintro e w2 ⟨v, rfl, ho, hb2⟩
  have hov : OutV w2 v s := ⟨ow_out ho, ow_bl ho⟩
  obtain ⟨⟨A0, c0, e0⟩, ⟨A1, c1, e1⟩, ⟨A2, c2, e2⟩, ⟨A3, c3, e3⟩, ⟨A4, c4, e4⟩, ⟨A5, c5, e5⟩, ⟨A6, c6, e6⟩, ⟨A7, c7, e7⟩, ⟨A8, c8, e8⟩, ⟨A9, c9, e9⟩⟩ := hov.is.shapes
  rw [HCT.out.ll] at e5
  rw [HCT.out.hl] at e6
  rw [HCT.out.il] at e7
  rw [e0, e1, e2, e3, e4, e5, e6, e7, e8, e9]
  obtain ⟨W, hW⟩ : ∃ W, W = w2.alloc (.cells #[.slice A0 s.blocks.length c0, .slice A1 s.labels.length c1, .slice A2 s.heads.length c2, .slice A3 s.cites.length c3, .slice A4 s.bibs.length c4, .slice A5 s.labels.length c5, .slice A6 s.heads.length c6, .slice A7 s.index.length c7, .slice A8 s.index.length c8, .slice A9 s.notes.length c9] 36) := ⟨_, rfl⟩
  have hO : W.heap[w2.heap.size]? = some (.cells #[.slice A0 s.blocks.length c0, .slice A1 s.labels.length c1, .slice A2 s.heads.length c2, .slice A3 s.cites.length c3, .slice A4 s.bibs.length c4, .slice A5 s.labels.length c5, .slice A6 s.heads.length c6, .slice A7 s.index.length c7, .slice A8 s.index.length c8, .slice A9 s.notes.length c9] 36 (0, 0)) := by rw [hW]; exact heap_alloc_new w2 _
  have hWb : Below w2.heap.size w2 W := by rw [hW]; exact (Below.refl _ _).alloc (Nat.le_refl _) _
  have hWs : W.heap.size = w2.heap.size + 1 := by rw [hW]; simp
  have hblo := hov.bo.step hWb
  rw [e0] at hblo
  have hhd := hov.is.hd.step hWb
  rw [e2] at hhd
  have hla := hov.is.la.step hWb
  rw [e5] at hla
  have hha := hov.is.ha.step hWb
  rw [e6] at hha
  have hia := hov.is.ia.step hWb
  rw [e7] at hia
  have HBLO := Lib.hid hblo
  have HHD := Lib.hid hhd
  have HLA := Lib.hid hla
  have HHA := Lib.hid hha
  have HIA := Lib.hid hia
  have HO := Lib.hid hO
  have HBW := Lib.hid (HB1.out.trans ((hb2.trans (hWb.mono hb2.size)).mono HB1.out.size))
  have HWS := Lib.hid hWs
  have HW := Lib.hid hW
  have HW2 := Lib.hid (show w2.heap.size < W.heap.size by omega)
  clear HN hov e0 e1 e2 e3 e4 e5 e6 e7 e8 e9 hblo hhd hla hha hia hO hWb hW hWs ho hb2 HB1
  go_upto_region 3 with fail
  rw [← HW.out]
  go_wp2_with fail
  go_loopw [4, 5] (fun o i wr => ∃ j : Nat, j ≤ s.blocks.length ∧ i = .int .i64 j ∧ OwnC 9 1 txF W.heap.size wr o (flatK s j) ∧ Below W.heap.size W wr) (fun _ i _ => s.blocks.length - (RowKit.intOf i).toNat)
  case atStart => exact ⟨0, Nat.zero_le _, rfl, made_empty _ _, (Below.refl _ _).alloc (Nat.le_refl _) _⟩
  case round =>
    obtain ⟨j, hj, rfl, hown, hbel⟩ := hrel
    have HBEL := Lib.hid hbel
    have hO := (hbel.block _ HW2.out).trans HO.out
    have y0 : wr.cell? ⟨w2.heap.size, 0, none⟩ = some (.slice A0 s.blocks.length c0) := by rw [Lib.cell_of_heap hO]; rfl
    by_cases hjt : j < s.blocks.length
    · have hi : (j : Int) < (s.blocks.length : Int) := by omega
      have hi0 : (0 : Int) ≤ (j : Int) := by omega
      obtain ⟨u, hu1, hu2, hu3⟩ := HBLO.out
      obtain ⟨Au, cu, eu, _, _, hcu⟩ := hu1.shape
      have hju : j < u.length := by omega
      obtain ⟨b, off, hA, hbl, hc⟩ := hcu (by intro e; rw [e] at hju; simp at hju)
      injection eu with i1 i2 i3
      rw [hA] at i1
      subst i1
      have x1 : wr.cell? ⟨b, off + j * 2 + 1, none⟩ = some u[j].2 := (hbel.cell (p := ⟨b, off + j * 2 + 1, none⟩) hbl).trans (hc j hju 1 _ rfl)
      obtain ⟨_, Bw, hw⟩ := hu3 j hju hjt
      generalize u[j].2 = sv at *
      have HWJ := Lib.hid (hw.below hbel)
      have HT := Lib.hid (flat_take s j hjt)
      have hl1 := flat_take_len s (j + 1)
      rw [HT.out, List.length_append] at hl1
      have hl2 := HCT.out.wo
      have hl3 := HBD.out.wo
      generalize s.blocks[j].2 = ws at *
      obtain ⟨i0, hi0', hz0, hz1, hz2⟩ := info_parts strInfo
      have HOWN := Lib.hid hown
      have HSZ := Lib.hid hbel.size
      clear hc hown hbel hO hw hA hcu hu1 hu3 i2 i3
      go_wp2_with (at_builtin; refine wpList_appRow (by rfl) (.tmp 25) (.tmp 31) 25 (by rfl) W.heap.size 9 i0 _ 1 16 Tryd.underlying25 hi0' hz0 hz1 hz2 (by rfl) (by decide) u4 (flatK s j).length ((flatK s j).flatMap txF) rfl HOWN.out HSZ.out sv (by rfl) ws.length (ws.flatMap txF) (src_own HWJ.out) (fun y hy => by obtain ⟨x, _, hx⟩ := List.mem_flatMap.1 hy; simp only [txF, List.mem_singleton] at hx; subst hx; rfl) (by simp only [maxLen]; omega) (by omega) ?_; intro v' w' q1 q2 q3; obtain ⟨A', c', hv'⟩ := own_slice q1; obtain ⟨A', n', c', rfl⟩ : ∃ A n c, v' = .slice A n c := ⟨_, _, _, hv'⟩; clear hv'; have HQ := Lib.hid (And.intro q1 (And.intro q2 q3)); clear q1 q2 q3)
      go_roundw
      case rel =>
        obtain ⟨q1, q2, q3⟩ := HQ.out
        refine ⟨j + 1, by omega, by go_num, ?_, ?_⟩
        · rw [HT.out]
          simpa [OwnC] using q1
        · exact HBEL.out.grown q2 HSZ.out (fun k hk => (World.ownsRow.lt HOWN.out k hk).1)
      case measure => simp [RowKit.intOf]; omega
    · obtain rfl : j = s.blocks.length := by omega
      have hi : ¬ ((s.blocks.length : Int) < (s.blocks.length : Int)) := by omega
      rw [flatK_all] at hown
      obtain ⟨W4, h4⟩ : ∃ W4, W4 = wr := ⟨_, rfl⟩
      subst h4
      have hwr : RowC 1 txF W4 W4.heap.size u4 (flat s) := hown.rowC txF_len
      obtain ⟨B1, b1, rfl, _, _, hcw⟩ := hwr.shape
      have HCW := Lib.hid hcw
      have H4 := Lib.hid (show w2.heap.size < W4.heap.size from Nat.lt_of_lt_of_le HW2.out hbel.size)
      have HO4 := Lib.hid hO
      have y1 : W4.cell? ⟨w2.heap.size, 1, none⟩ = some (.slice A1 s.labels.length c1) := by rw [Lib.cell_of_heap hO]; rfl
      have y2 : W4.cell? ⟨w2.heap.size, 2, none⟩ = some (.slice A2 s.heads.length c2) := by rw [Lib.cell_of_heap hO]; rfl
      have y5 : W4.cell? ⟨w2.heap.size, 5, none⟩ = some (.slice A5 s.labels.length c5) := by rw [Lib.cell_of_heap hO]; rfl
      have y6 : W4.cell? ⟨w2.heap.size, 6, none⟩ = some (.slice A6 s.heads.length c6) := by rw [Lib.cell_of_heap hO]; rfl
      have y7 : W4.cell? ⟨w2.heap.size, 7, none⟩ = some (.slice A7 s.index.length c7) := by rw [Lib.cell_of_heap hO]; rfl
      have y8 : W4.cell? ⟨w2.heap.size, 8, none⟩ = some (.slice A8 s.index.length c8) := by rw [Lib.cell_of_heap hO]; rfl
      have n1 : ((s.heads.length : Int) != (s.heads.length : Int)) = false := by simp
      have n2 : ((s.labels.length : Int) != (s.labels.length : Int)) = false := by simp
      have n3 : ((s.index.length : Int) != (s.index.length : Int)) = false := by simp
      clear hown hbel hO hwr hcw
      go_wp2_with fail
      go_loopw [6, 7, 8] (fun a b i wr => ∃ j : Nat, j ≤ s.heads.length ∧ i = .int .i64 j ∧ a = .int .i64 ((secs (s.heads.take j)).1 : Nat) ∧ b = .int .i64 ((secs (s.heads.take j)).2 : Nat) ∧ Below W4.heap.size W4 wr) (fun _ _ i _ => s.heads.length - (RowKit.intOf i).toNat)
      case atStart => exact ⟨0, Nat.zero_le _, rfl, rfl, rfl, Below.refl _ _⟩
      case round =>
        obtain ⟨j, hj, rfl, rfl, rfl, hbel⟩ := hrel
        have HBL4 := Lib.hid hbel
        have HBW4 := Lib.hid (HBEL.out.trans (hbel.mono HBEL.out.size))
        have hO := (hbel.block _ H4.out).trans HO4.out
        have y1 : wr.cell? ⟨w2.heap.size, 1, none⟩ = some (.slice A1 s.labels.length c1) := by rw [Lib.cell_of_heap hO]; rfl
        have y2 : wr.cell? ⟨w2.heap.size, 2, none⟩ = some (.slice A2 s.heads.length c2) := by rw [Lib.cell_of_heap hO]; rfl
        have y5 : wr.cell? ⟨w2.heap.size, 5, none⟩ = some (.slice A5 s.labels.length c5) := by rw [Lib.cell_of_heap hO]; rfl
        have y6 : wr.cell? ⟨w2.heap.size, 6, none⟩ = some (.slice A6 s.heads.length c6) := by rw [Lib.cell_of_heap hO]; rfl
        have y7 : wr.cell? ⟨w2.heap.size, 7, none⟩ = some (.slice A7 s.index.length c7) := by rw [Lib.cell_of_heap hO]; rfl
        by_cases hjt : j < s.heads.length
        · have hi : (j : Int) < (s.heads.length : Int) := by omega
          have hi0 : (0 : Int) ≤ (j : Int) := by omega
          obtain ⟨Ah, ch, eh, _, _, hch⟩ := HHD.out.shape
          obtain ⟨b, off, hA, hbl, hc⟩ := hch (by intro e; rw [e] at hjt; simp at hjt)
          injection eh with i1 i2 i3
          rw [hA] at i1
          subst i1
          have x0 : wr.cell? ⟨b, off + j * 4, none⟩ = some (.int .i64 s.heads[j].level) := (HBW4.out.cell (p := ⟨b, off + j * 4, none⟩) hbl).trans (hc j hjt 0 _ rfl)
          have x1 : wr.cell? ⟨b, off + j * 4 + 1, none⟩ = some (.string (bs s.heads[j].num)) := (HBW4.out.cell (p := ⟨b, off + j * 4 + 1, none⟩) hbl).trans (hc j hjt 1 _ rfl)
          have x2 : wr.cell? ⟨b, off + j * 4 + 2, none⟩ = some (.string (bs s.heads[j].title)) := (HBW4.out.cell (p := ⟨b, off + j * 4 + 2, none⟩) hbl).trans (hc j hjt 2 _ rfl)
          have x3 : wr.cell? ⟨b, off + j * 4 + 3, none⟩ = some (.int .i64 s.heads[j].page) := (HBW4.out.cell (p := ⟨b, off + j * 4 + 3, none⟩) hbl).trans (hc j hjt 3 _ rfl)
          -- where it stands
          obtain ⟨m, hm1, hm2, hm3, _⟩ := HCT.out.pl j hjt
          have hjh : j < s.ha.length := by rw [HCT.out.hl]; exact hjt
          rw [List.getElem?_eq_getElem hjh] at hm1
          obtain ⟨Ai, ci, ei, _, _, hci⟩ := HHA.out.shape
          obtain ⟨bi, oi, hAi, hbi, hcc⟩ := hci (by intro e; rw [e] at hjh; simp at hjh)
          injection ei with k1 k2 k3
          rw [hAi] at k1
          subst k1
          have x4 : wr.cell? ⟨bi, oi + j, none⟩ = some (.int .i64 m) := by
            have := (HBW4.out.cell (p := ⟨bi, oi + j * 1 + 0, none⟩) hbi).trans (hcc j hjh 0 _ rfl)
            rw [Option.some.inj hm1] at this
            simpa using this
          have hml : m < (flat s).length := by rw [← HCT.out.wo]; exact hm3
          obtain ⟨bw, ow, rfl, hbw, hcw⟩ := HCW.out (by intro e; rw [e] at hml; simp at hml)
          have x5 : wr.cell? ⟨bw, ow + m, none⟩ = some (.string (bs s.heads[j].num)) := by
            have := (hbel.cell (p := ⟨bw, ow + m * 1 + 0, none⟩) hbw).trans (hcw m hml 0 _ rfl)
            rw [List.getElem?_eq_getElem hml] at hm2
            rw [Option.some.inj hm2] at this
            simpa using this
          have hm0 : (0 : Int) ≤ (m : Int) := by omega
          have hml' : (m : Int) < ((flat s).length : Int) := by omega
          have hml2 : ¬ ((flat s).length : Int) ≤ (m : Int) := by omega
          have hm02 : ¬ (m : Int) < 0 := by omega
          have hnum := HCT.out.hn j hjt
          have hlv := HCT.out.lv _ (List.getElem_mem hjt)
          have hsec := secs_take s.heads j hjt
          have hle := secs_take_le s.heads j
          have hle2 := secs_take_le s.heads (j + 1)
          have hhl := HBD.out.hd
          generalize s.heads[j] = x at *
          generalize hPP : secs (s.heads.take (j + 1)) = P' at *
          generalize secs (s.heads.take j) = P at *
          obtain ⟨a, bb⟩ := P
          simp only at hle ⊢
          have XN := Lib.hid hnum
          have XP := Lib.hid hsec
          have hbels := hbel.size
          clear hc hcc hcw hO hbel hA hAi hci hch hnum hsec i2 i3 k2 k3 hm1 hm2
          obtain ⟨V, hV⟩ : ∃ V, V = wr.alloc (.cells #[.int .i64 x.level, .string (bs x.num), .string (bs x.title), .int .i64 x.page] 53) := ⟨_, rfl⟩
          have hVX : V.heap[wr.heap.size]? = some (.cells #[.int .i64 x.level, .string (bs x.num), .string (bs x.title), .int .i64 x.page] 53 (0, 0)) := by rw [hV]; exact heap_alloc_new _ _
          have hVb : Below wr.heap.size wr V := by rw [hV]; exact (Below.refl _ _).alloc (Nat.le_refl _) _
          have z0 : V.cell? ⟨wr.heap.size, 0, none⟩ = some (.int .i64 x.level) := by rw [Lib.cell_of_heap hVX]; rfl
          have z1 : V.cell? ⟨wr.heap.size, 1, none⟩ = some (.string (bs x.num)) := by rw [Lib.cell_of_heap hVX]; rfl
          have hXV := lt_of_block hVX
          have HVB := Lib.hid hVb
          have hpt : wr.heap.size < V.heap.size := hXV
          have v6 := below_cell hVb (Nat.lt_of_lt_of_le H4.out hbels) y6
          have v4 := below_cell hVb (blt x4) x4
          have v5 := below_cell hVb (blt x5) x5
          have HV := Lib.hid hV
          go_upto_region 15 with fail
          rw [← HV.out]
          generalize wr.heap.size = X at *
          clear hV hVX hVb y1 y2 y5 y6 y7 x0 x1 x2 x3 x4 x5 HV
          rcases hlv with hl1 | hl1
          · obtain ⟨d, hx, hPe, hd1⟩ := num_one XN.out XP.out hl1 (by have := HBD.out.hd; have := hle2.1; have h0 := XP.out; unfold secS at h0; rw [if_pos hl1] at h0; rw [h0] at this; simp only at this; omega)
            have hle3 := hle2.1
            rw [hPe] at hle3
            simp only at hle3
            rw [hx] at v5 z1
            rw [hl1] at z0
            have HD := Lib.hid hd1
            have HPE := Lib.hid hPe
            have q1 : IntKind.i64.wrap ((a : Int) + 1) = ((a + 1 : Nat) : Int) := by rw [IntWalk.i64_in _ (by omega)]; omega
            clear hx hd1 hPe hl1 XN XP
            go_wp2_with fail
            refine (HD.out _).mono ?_
            rintro e w5 ⟨rfl, hb5⟩
            have z0' := below_cell hb5 hpt z0
            have z1' := below_cell hb5 hpt z1
            have v6' := below_cell hb5 (blt v6) v6
            have v4' := below_cell hb5 (blt v4) v4
            have v5' := below_cell hb5 (blt v5) v5
            have hne : ((bs d).toList != (bs d).toList) = false := by simp
            have HB5 := Lib.hid hb5
            clear z0 z1 v6 v4 v5 hb5
            go_wp2_with fail
            go_roundw
            case rel =>
              refine ⟨j + 1, by omega, by go_num, ?_, ?_, HBL4.out.trans ((HVB.out.trans (HB5.out.mono (Nat.le_of_lt hpt))).mono hbels)⟩
              · rw [hPP, HPE.out]; go_num
              · rw [hPP, HPE.out]; rfl
            case measure => simp [RowKit.intOf]; omega
          · obtain ⟨d, d2, hx, hg1, hg2, hPe, hd1, hd2⟩ := num_two XN.out XP.out hl1 (by have := HBD.out.hd; omega) (by have := HBD.out.hd; have := hle2.2; have h0 := XP.out; unfold secS at h0; rw [if_neg (by omega)] at h0; rw [h0] at this; simp only at this; omega)
            have hle3 := hle2.2
            rw [hPe] at hle3
            simp only at hle3
            rw [hx] at v5 z1
            rw [hl1] at z0
            have HD := Lib.hid hd1
            have HD2 := Lib.hid hd2
            have HPE := Lib.hid hPe
            have q1 : IntKind.i64.wrap ((bb : Int) + 1) = ((bb + 1 : Nat) : Int) := by rw [IntWalk.i64_in _ (by omega)]; omega
            clear hx hd1 hd2 hPe hl1 XN XP
            go_wp2_with fail
            refine (HD.out _).mono ?_
            rintro e w5 ⟨rfl, hb5⟩
            have z0' := below_cell hb5 hpt z0
            have z1' := below_cell hb5 hpt z1
            have v6' := below_cell hb5 (blt v6) v6
            have v4' := below_cell hb5 (blt v4) v4
            have v5' := below_cell hb5 (blt v5) v5
            have HB5 := Lib.hid hb5
            have hpt5 := Nat.lt_of_lt_of_le hpt hb5.size
            clear z0 z1 v6 v4 v5 hb5
            go_wp2_with fail
            refine (HD2.out _).mono ?_
            rintro e w7 ⟨rfl, hb7⟩
            have z1 := below_cell hb7 hpt5 z1'
            have v6 := below_cell hb7 (blt v6') v6'
            have v4 := below_cell hb7 (blt v4') v4'
            have v5 := below_cell hb7 (blt v5') v5'
            have HB7 := Lib.hid (below_via HB5.out hb7)
            have o1 : (⟨#[46]⟩ : ByteArray) ++ bs d2 = bs (46 :: d2) := by rw [show (⟨#[46]⟩ : ByteArray) = bs [46] from rfl, bs_append]; rfl
            have o2 : bs d ++ bs (46 :: d2) = bs (d ++ 46 :: d2) := bs_append _ _
            have o3 : ¬ 9223372036854775807 < (⟨#[46]⟩ : ByteArray).size + (bs d2).size := by rw [bs_size]; have : (⟨#[46]⟩ : ByteArray).size = 1 := rfl; omega
            have o4 : ¬ 9223372036854775807 < (bs d).size + (bs (46 :: d2)).size := by rw [bs_size, bs_size]; simp only [List.length_cons]; omega
            have hne : ((bs (d ++ 46 :: d2)).toList != (bs (d ++ 46 :: d2)).toList) = false := by simp
            clear z0' z1' v6' v4' v5' hb7
            go_wp2_with fail
            go_roundw
            case rel =>
              refine ⟨j + 1, by omega, by go_num, ?_, ?_, HBL4.out.trans ((HVB.out.trans (HB7.out.mono (Nat.le_of_lt hpt))).mono hbels)⟩
              · rw [hPP, HPE.out]
              · rw [hPP, HPE.out]; go_num
            case measure => simp [RowKit.intOf]; omega
        · obtain rfl : j = s.heads.length := by omega
          have hi : ¬ ((s.heads.length : Int) < (s.heads.length : Int)) := by omega
          have HBWr := HBW4
          have H4r := Nat.lt_of_lt_of_le H4.out hbel.size
          have hle : here s ≤ s.c.words := by unfold here; split <;> omega
          have hq1 : Ris s.ha ((flat s).length : Int) := by rw [← HCT.out.wo]; exact HCT.out.ha
          have hq2 : Ris s.la ((flat s).length : Int) := by rw [← HCT.out.wo]; exact HCT.out.la.mono hle
          have hq3 : Ris s.ia ((flat s).length : Int) := by rw [← HCT.out.wo]; exact HCT.out.ia.mono hle
          have HQ2 := Lib.hid hq2
          have HQ3 := Lib.hid hq3
          have HX := Lib.hid (rises_any (.slice A6 s.heads.length c6) s.ha ((flat s).length : Int) (HHA.out.step HBWr.out) hq1)
          clear hq1 hq2 hq3 hle hO hbel y1
          go_wp2_with fail
          refine HX.out.mono ?_
          rintro e w6 ⟨rfl, hb6⟩
          have y5' := below_cell hb6 H4r y5
          have y7' := below_cell hb6 H4r y7
          have H6r := Nat.lt_of_lt_of_le H4r hb6.size
          have HB6 := Lib.hid (below_via HBWr.out hb6)
          have HX2 := Lib.hid (rises_any (.slice A5 s.labels.length c5) s.la ((flat s).length : Int) (HLA.out.step HB6.out) HQ2.out)
          clear HX hb6 y5 y6 y7
          go_wp2_with fail
          refine HX2.out.mono ?_
          rintro e w7 ⟨rfl, hb7⟩
          have y7 := below_cell hb7 H6r y7'
          have HB7 := Lib.hid (below_via HB6.out hb7)
          have HX3 := Lib.hid (rises_any (.slice A7 s.index.length c7) s.ia ((flat s).length : Int) (HIA.out.step HB7.out) HQ3.out)
          clear HX2 hb7 y5' y7'
          go_wp2_with fail
          refine HX3.out.mono ?_
          rintro e w8 ⟨rfl, hb8⟩
          have HB8 := Lib.hid (HBW.out.trans ((below_via HB7.out hb8).mono HBW.out.size))
          have HX4 := Lib.hid (fixed_any w8 (fun wx hb => HG.out.below (below_via HB8.out hb)))
          clear HX3 hb8 y7
          go_wp2_with fail
          refine HX4.out.mono ?_
          rintro e w9 ⟨rfl, hb9⟩
          go_wp2_with fail
          go_ret
          exact ⟨rfl, below_via HB8.out hb9⟩
end Go.Proofs.YtjmmfihmamcopaaDoor
