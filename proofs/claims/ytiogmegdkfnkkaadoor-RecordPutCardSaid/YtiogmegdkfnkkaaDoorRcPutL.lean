/- RecordPut. -/
import Derived.Test.YtiogmegdkfnkkaaDoorRcBack
import Derived.Test.YtiogmegdkfnkkaaDoorQ7
import Derived.IntWalk
namespace Go.Proofs.YtiogmegdkfnkkaaDoor
open Go.RowKit Tx

theorem putLen {K : List Rc.Rec} {x : Rc.Rec} {q : Bool} (h : (Rc.find K x.1).isSome = q) : (Rc.putR K x).length = if q then K.length else K.length + 1 := by
  rw [Rc.put_len, ← h, find_isSome]
theorem find_put_has {K : List Rc.Rec} {x : Rc.Rec} (hu : Uniq K) {j : Nat} (hj : j < K.length) : Rc.find (Rc.putR K x) K[j].1 = some (if K[j].1 = x.1 then x else K[j]) := by
  by_cases h : K[j].1 = x.1
  · rw [if_pos h, h, Rc.find_put_same]
  · rw [if_neg h, Rc.find_put_other _ _ _ (fun e => h e.symm), hu.find hj]
set_option maxRecDepth 100000 in
set_option maxHeartbeats 16000000 in
theorem rput_any (v : Value) (l : List Rc.Rec) (w : World) (hr : RowR w w.heap.size v l) (hok : ∀ x ∈ l, RecOk x) (hg : Gl w) :
    Calls Tryd.prog 6 #[v] w fun e w' => e = .returned (.bool true) ∧ Below w.heap.size w w' := by
  have HG := Lib.hid hg
  have hcut := cut_any v l 8 w hr (by decide) hok
  obtain ⟨hc1, hc2⟩ := cutL_ok l 8
  have hsl : ∀ x ∈ cutL l 8, x.2.1.length < 1000000 ∧ x.2.2.length < 1000000 := fun x hx => ⟨by have := (hc1 x hx).reads.1; omega, by have := (hc1 x hx).writes.1; omega⟩
  have HSL := Lib.hid hsl
  clear hr hok hg hc1 hsl
  generalize cutL l 8 = L at *
  have HPK := Lib.hid (puts_ok L)
  go_enter Tryd.func6, Tryd.ntmps6
  go_wp2_with fail
  refine hcut.mono ?_
  rintro e w1 ⟨v1, rfl, R1, b1⟩
  have HB1 := Lib.hid b1
  have HR1 := Lib.hid (fun wx (hb : Below w1.heap.size w1 wx) => R1.step hb)
  obtain ⟨A, cap, rfl, c1, c2, c3⟩ := R1.shape
  have HC := Lib.hid c3
  have hal : Below w1.heap.size w1 (w1.alloc (.cells #[] 35)) := (Below.refl _ _).alloc (Nat.le_refl _) _
  have hp0 : puts L 0 = [] := rfl
  have hmade := (OwnR.made 35 w1.heap.size w1 (Nat.le_refl _)).row
  clear hcut b1 c3 R1
  go_wp2_with fail
  go_loopw [3, 4] (fun kv i wr => ∃ k : Nat, k ≤ L.length ∧ i = .int .i64 k ∧ RowR wr wr.heap.size kv (puts L k) ∧ Below w1.heap.size w1 wr) (fun _ i _ => L.length - (RowKit.intOf i).toNat)
  case atStart => exact ⟨0, Nat.zero_le _, rfl, hmade, hal⟩
  case round =>
    clear hmade hal hp0
    obtain ⟨k, hk, rfl, hkr, hbel⟩ := hrel
    have hle := hbel.size
    obtain ⟨pu, pl, pm⟩ := HPK.out k hk
    have HPS := Lib.hid (fun y hy => HSL.out y (pm y hy))
    by_cases hlt : k < L.length
    · obtain ⟨b, off, rfl, hbl, ⟨z0, r1, r2⟩, ⟨j1, j2, j3⟩, hrec⟩ := HC.out k hlt
      have HST := Lib.hid (puts_step L k hlt)
      have hx := HSL.out _ (List.getElem_mem hlt)
      have HAT := Lib.hid (fun wx (hb : Below w1.heap.size w1 wx) => (HR1.out wx hb).at hlt)
      have hsa := slAddr_at (b := b) (off := off) (k := k) (cap := cap) (by omega) 3
      generalize L[k] = x at *
      generalize puts L k = K at *
      obtain ⟨B1, p1, B2, p2, hr3⟩ := hrec.rows
      injection hr3 with e1 e2
      injection e2 with e2 e3
      subst e1 e2 e3
      simp only at j1 j2 j3
      have HCL := Lib.hid (fun wx (hb : Below w1.heap.size w1 wx) => (show wx.cell? ⟨b, off + k * 3, none⟩ = some (.string (bs x.1)) ∧ wx.cell? ⟨b, off + k * 3 + 1, none⟩ = some (.slice B1 x.2.1.length p1) ∧ wx.cell? ⟨b, off + k * 3 + 2, none⟩ = some (.slice B2 x.2.2.length p2) from
        ⟨(hb.cell (p := ⟨b, off + k * 3, none⟩) hbl).trans j1, (hb.cell (p := ⟨b, off + k * 3 + 1, none⟩) hbl).trans j2, (hb.cell (p := ⟨b, off + k * 3 + 2, none⟩) hbl).trans j3⟩))
      have HXR := Lib.hid (fun wx (hb : Below w1.heap.size w1 wx) => (hrec.below hb (Nat.le_refl _)).more hb.size)
      clear j1 j2 j3 hrec
      have i0 : (0 : Int) ≤ (k : Int) := by omega
      have i1 : (k : Int) < (L.length : Int) := by omega
      obtain ⟨KA, kc, rfl, kc1, kc2, kc3⟩ := hkr.shape
      have HKR := Lib.hid hkr
      have HKC := Lib.hid kc3
      clear kc3 hkr
      obtain ⟨k1, k2, k3⟩ := HCL.out wr hbel
      have hfind := find_any _ K x.1 wr HKR.out (by omega) (fun y hy => ⟨by have := (HPS.out y hy).1; omega, by have := (HPS.out y hy).2; omega⟩)
      go_wp2_with fail
      refine hfind.mono ?_
      rintro e w2 ⟨r2, rfl, X2, b2⟩
      obtain ⟨C1, s1, C2, s2, rfl⟩ := X2.rows
      generalize hq : (Rc.find K x.1).isSome = q at *
      have HLEN := Lib.hid (putLen hq)
      generalize (Rc.find K x.1).getD ([], [], []) = y2 at *
      have J2 : Below w1.heap.size w1 w2 := hbel.trans (b2.mono hle)
      have K2 := Lib.hid (HKR.out.step b2)
      clear hfind k1 k2 k3 X2 b2 hq
      have J3 := fun o => Bal (o := o) J2
      obtain ⟨k1, k2, k3⟩ := HCL.out _ (J3 (.cells #[.string (bs y2.1), .slice C1 y2.2.1.length s1, .slice C2 y2.2.2.length s2] 35))
      go_wp2_with fail
      obtain ⟨W3, hW3⟩ : ∃ W, W = w2.alloc (.cells #[.string (bs y2.1), .slice C1 y2.2.1.length s1, .slice C2 y2.2.2.length s2] 35) := ⟨_, rfl⟩
      rw [← hW3]
      have J3' : Below w1.heap.size w1 W3 := by rw [hW3]; exact J3 _
      have K3 : Hid (RowR W3 W3.heap.size (.slice KA K.length kc) K) := Lib.hid (by rw [hW3]; exact K2.out.step ((Below.refl _ _).alloc (Nat.le_refl _) _))
      clear hW3 J3 k1 k2 k3 K2 J2
      refine (put_any _ K (x.1, .slice B1 x.2.1.length p1, .slice B2 x.2.2.length p2) x W3 K3.out (HXR.out W3 J3') (by omega) (fun y hy => ⟨by have := (HPS.out y hy).1; omega, by have := (HPS.out y hy).2; omega⟩) ⟨by omega, by omega⟩).mono ?_
      rintro e w4 ⟨vm, rfl, M4, b4⟩
      have J4 : Below w1.heap.size w1 w4 := J3'.trans (b4.mono J3'.size)
      have K4 := Lib.hid (K3.out.step b4)
      obtain ⟨mA, mc, rfl, m1, m2, m3⟩ := M4.shape
      have HM4 := Lib.hid M4
      have HPM := Lib.hid (fun (y : Rc.Rec) (hy : y ∈ Rc.putR K x) => show y.2.1.length < 1000000 ∧ y.2.2.length < 1000000 from by
        rcases putR_mem (l := K) (x := x) (y := y) hy with rfl | h
        · exact hx
        · exact HPS.out y h)
      have hml := put_le K x
      clear b4 K3 J3' m3 M4
      obtain ⟨ml, hmle⟩ : ∃ ml, ml = (Rc.putR K x).length := ⟨_, rfl⟩
      rw [← hmle] at HLEN hml m1 ⊢
      have HML := Lib.hid hmle
      clear hmle
      go_upto_region 8 with fail
      go_cut [57] (fun b wx => b = .bool false ∧ w4 = wx)
      case first =>
        have hwr : IntKind.i64.wrap ((K.length : Int) + 1) = (K.length : Int) + 1 := IntWalk.i64_in _ (by omega)
        cases q with
        | true =>
          have hl : ml = K.length := by have := HLEN.out; simpa using this
          have hne : ((ml : Int) != (K.length : Int)) = false := by rw [hl]; simp
          clear hl
          go_wp2_with fail
          go_meet
          exact ⟨rfl, rfl⟩
        | false =>
          have hl : ml = K.length + 1 := by have := HLEN.out; simpa using this
          have hne : ((ml : Int) != (K.length : Int) + 1) = false := by rw [hl]; simp
          clear hl
          go_wp2_with fail
          go_meet
          exact ⟨rfl, rfl⟩
      case rest =>
        obtain ⟨rfl, rfl⟩ := hcut
        obtain ⟨k1, k2, k3⟩ := HCL.out w4 J4
        have hfind := find_any (.slice mA ml mc) (Rc.putR K x) x.1 w4 (by rw [HML.out]; exact HM4.out) (by rw [← HML.out]; omega) (fun y hy => ⟨by have := (HPM.out y hy).1; omega, by have := (HPM.out y hy).2; omega⟩)
        go_wp2_with fail
        refine hfind.mono ?_
        rintro e w5 ⟨r5, rfl, X5, b5⟩
        rw [Rc.find_put_same] at X5 ⊢
        simp only [Option.getD_some, Option.isSome_some] at X5 ⊢
        obtain ⟨D1, t1, D2, t2, rfl⟩ := X5.rows
        have J5 : Below w1.heap.size w1 w5 := J4.trans (b5.mono J4.size)
        have K5 := Lib.hid (K4.out.step b5)
        have M5 := Lib.hid (HM4.out.step b5)
        clear hfind b5 HM4 k1 k2 k3 K4 J4
        obtain ⟨W6, hW6⟩ : ∃ W, W = w5.alloc (.cells #[.string (bs x.1), .slice D1 x.2.1.length t1, .slice D2 x.2.2.length t2] 35) := ⟨_, rfl⟩
        have b6 : Below w5.heap.size w5 W6 := by rw [hW6]; exact (Below.refl _ _).alloc (Nat.le_refl _) _
        have g6 : W6.heap[w5.heap.size]? = some (.cells #[.string (bs x.1), .slice D1 x.2.1.length t1, .slice D2 x.2.2.length t2] 35 (0, 0)) := by rw [hW6]; exact heap_alloc_new _ _
        have J6 : Below w1.heap.size w1 W6 := J5.trans (b6.mono J5.size)
        have K6 := Lib.hid (K5.out.step b6)
        have M6 := Lib.hid (M5.out.step b6)
        have X6 := Lib.hid (X5.step b6)
        have hg6 := lt_of_block g6
        have HS := Lib.hid (fun wx (hb : Below W6.heap.size W6 wx) => (show wx.cell? ⟨w5.heap.size, 0, none⟩ = some (.string (bs x.1)) ∧ wx.cell? ⟨w5.heap.size, 1, none⟩ = some (.slice D1 x.2.1.length t1) ∧ wx.cell? ⟨w5.heap.size, 2, none⟩ = some (.slice D2 x.2.2.length t2) from
          ⟨(cells3 ((hb.block _ hg6).trans g6)).1, (cells3 ((hb.block _ hg6).trans g6)).2.1, (cells3 ((hb.block _ hg6).trans g6)).2.2.1⟩))
        have H1 := Lib.hid (fun wx (hb : Below W6.heap.size W6 wx) => refs_any _ [x] wx (HAT.out wx (J6.trans (hb.mono J6.size))) (by simp) (fun y hy => by simp at hy; subst hy; exact hx.1))
        have H2 := Lib.hid (fun wx (hb : Below W6.heap.size W6 wx) (g : Nat) (hg : wx.heap[g]? = some (.cells #[.string (bs x.1), .slice D1 x.2.1.length t1, .slice D2 x.2.2.length t2] 35)) => refs_any (.slice (some ⟨g, 0, none⟩) 1 1) [x] wx (rowR_one (r := (x.1, .slice D1 x.2.1.length t1, .slice D2 x.2.2.length t2)) hg (X6.out.step hb)) (by simp) (fun y hy => by simp at hy; subst hy; exact hx.1))
        have i2 : (k : Int) + 1 ≤ (L.length : Int) := by omega
        have i3 : (k : Int) ≤ (k : Int) + 1 := by omega
        have i4 : (k : Int) + 1 ≤ (cap : Int) := by omega
        have hw1 : IntKind.i64.wrap ((k : Int) + 1) = (k : Int) + 1 := IntWalk.i64_in _ (by omega)
        have ht1 : ((k : Int) + 1).toNat = k + 1 := by omega
        have ht2 : k + 1 - k = 1 := by omega
        clear X5 K5 M5 g6 hg6 b6
        go_upto_region 11 with fail
        rw [← hW6]
        clear hW6
        go_region_held3 (fun wx => wx.cell? ⟨w5.heap.size, 0, none⟩ = some (.string (bs x.1)) ∧ wx.cell? ⟨w5.heap.size, 1, none⟩ = some (.slice D1 x.2.1.length t1) ∧ wx.cell? ⟨w5.heap.size, 2, none⟩ = some (.slice D2 x.2.2.length t2))
          (exact HS.out _ (by first | assumption | exact (Below.refl _ _).drew | exact Below.refl _ _ | exact Dr (Bal (Below.refl _ _)) | exact Bal (Below.refl _ _)))
          (first
          | (go_at_call 16; refine (same_any (q := true) _ _ [x] [x] (by simp) x8 (Q7.step b8) S8 (by simp) (by simp) (fun y hy => by simp at hy; subst hy; exact hx) (fun y hy => by simp at hy; subst hy; exact hx)).mono ?_; rintro e x9 ⟨rfl, nq, rfl⟩; have a9 := below_via a8 (below_of_drewN (a := x8) (B := x8.heap.size) nq); clear Q7 S8 b8; dsimp only)
          | (go_at_call 15; have yy := a7; refine (H1.out _ a7).mono ?_; rintro e x8 ⟨v8, rfl, S8, b8⟩; have a8 : Below W6.heap.size W6 x8 := below_via a7 b8; dsimp only)
          | (go_at_call 15; refine (H2.out _ (Dr (Bal (Below.refl _ _))) _ (heap_alloc_new _ _)).mono ?_; rintro e x7 ⟨v7, rfl, Q7, b7⟩; have a7 : Below W6.heap.size W6 x7 := below_via (Dr (Bal (Below.refl _ _))) b7; clear b7; dsimp only))
        go_wp2_with fail
        obtain ⟨W9, hW9⟩ : ∃ W, W = x8.drewN nq := ⟨_, rfl⟩
        rw [← hW9] at a9 ⊢
        have J9 : Below w1.heap.size w1 W9 := J6.trans (a9.mono J6.size)
        have K9 := Lib.hid (K6.out.step a9)
        have M9 := Lib.hid (M6.out.step a9)
        obtain ⟨KA', kc', eK, _, _, kq⟩ := K9.out.shape
        injection eK with eA _ eC
        subst eA eC
        have HKQ := Lib.hid kq
        have HKAT := Lib.hid (fun (bk ok j : Nat) (e : KA = some ⟨bk, ok, none⟩) (hj : j < K.length) (wx : World) (hb : Below W9.heap.size W9 wx) => (show RowR wx wx.heap.size (.slice (some ⟨bk, ok + j * 3, none⟩) 1 (kc - j)) [K[j]] from (e ▸ K9.out.step hb : RowR wx wx.heap.size (.slice (some ⟨bk, ok, none⟩) K.length kc) K).at hj))
        clear hW9 a9 a8 a7 kq K6 M6 J6 H1 H2 HS X6 hsa i2 i3 i4 hw1 ht1 ht2
        go_wp2_with fail
        go_loopw [10] (fun jv wr => ∃ j : Nat, j ≤ K.length ∧ jv = .int .i64 j ∧ Below W9.heap.size W9 wr) (fun jv _ => K.length - (RowKit.intOf jv).toNat)
        case atStart => exact ⟨0, Nat.zero_le _, rfl, Below.refl _ _⟩
        case round =>
          obtain ⟨j, hj, rfl, hb9⟩ := hrel
          have J10 : Below w1.heap.size w1 wr := J9.trans (hb9.mono J9.size)
          have M10 := Lib.hid (M9.out.step hb9)
          by_cases hjl : j < K.length
          · obtain ⟨bk, ok, rfl, hbk, rj, ⟨t1, t2, t3⟩, hrj⟩ := HKQ.out j hjl
            have e0 := hrj.rule
            rw [e0] at t1
            have t1 := (hb9.cell (p := ⟨bk, ok + j * 3, none⟩) hbk).trans t1
            have HKJ := Lib.hid (HKAT.out bk ok j rfl hjl)
            have hfp := find_put_has (x := x) pu hjl
            have hyl := HPS.out _ (List.getElem_mem hjl)
            have hsk := slAddr_at (b := bk) (off := ok) (k := j) (cap := kc) (by omega) 3
            generalize K[j] = y at *
            have n0 : (0 : Int) ≤ (j : Int) := by omega
            have n1 : (j : Int) < (K.length : Int) := by omega
            obtain ⟨q1, _, _⟩ := HCL.out wr J10
            have hfind := find_any (.slice mA ml mc) (Rc.putR K x) y.1 wr (by rw [HML.out]; exact M10.out) (by rw [← HML.out]; omega) (fun y hy => ⟨by have := (HPM.out y hy).1; omega, by have := (HPM.out y hy).2; omega⟩)
            clear hrj t2 t3 e0
            go_wp2_with fail
            refine hfind.mono ?_
            rintro e w11 ⟨r11, rfl, X11, b11⟩
            rw [hfp] at X11 ⊢
            simp only [Option.getD_some, Option.isSome_some] at X11 ⊢
            obtain ⟨F1, f1, F2, f2, rfl⟩ := X11.rows
            have hb11 : Below W9.heap.size W9 w11 := hb9.trans (b11.mono hb9.size)
            by_cases hyx : y.1 = x.1
            · rw [if_pos hyx] at *
              have hbe : ((bs y.1).toList == (bs x.1).toList) = true := by rw [hyx]; simp
              have hb12 := fun o => Bal (o := o) hb11
              obtain ⟨q1, _, _⟩ := HCL.out _ (J9.trans ((hb12 (.cells #[.string (bs x.1), .slice F1 x.2.1.length f1, .slice F2 x.2.2.length f2] 35)).mono J9.size))
              have hb9' := ((b11.cell (p := ⟨bk, ok + j * 3, none⟩) (Nat.lt_of_lt_of_le hbk hb9.size)).trans t1)
              have q2 := Lib.cell?_alloc_marked (.cells #[.string (bs x.1), .slice F1 x.2.1.length f1, .slice F2 x.2.2.length f2] 35) hb9'
              clear hfind hfp X11 hyx t1
              go_wp2_with fail
              go_quiet (fail)
              go_wp2_with fail
              go_roundw
              case rel => exact ⟨j + 1, by omega, by go_num, (hb12 _).trans (below_of_drewN _)⟩
              case measure => simp [RowKit.intOf]; omega
            · rw [if_neg hyx] at *
              have hbe : ((bs y.1).toList == (bs x.1).toList) = false := by rw [toListB, toListB]; exact beq_eq_false_iff_ne.2 hyx
              obtain ⟨W12, hW12⟩ : ∃ W, W = w11.alloc (.cells #[.string (bs y.1), .slice F1 y.2.1.length f1, .slice F2 y.2.2.length f2] 35) := ⟨_, rfl⟩
              have b12 : Below w11.heap.size w11 W12 := by rw [hW12]; exact (Below.refl _ _).alloc (Nat.le_refl _) _
              have g12 : W12.heap[w11.heap.size]? = some (.cells #[.string (bs y.1), .slice F1 y.2.1.length f1, .slice F2 y.2.2.length f2] 35 (0, 0)) := by rw [hW12]; exact heap_alloc_new _ _
              have hb12 : Below W9.heap.size W9 W12 := hb11.trans (b12.mono hb11.size)
              have X12 := Lib.hid (X11.step b12)
              have hg12 := lt_of_block g12
              have HS := Lib.hid (fun wx (hb : Below W12.heap.size W12 wx) => (show wx.cell? ⟨w11.heap.size, 0, none⟩ = some (.string (bs y.1)) ∧ wx.cell? ⟨w11.heap.size, 1, none⟩ = some (.slice F1 y.2.1.length f1) ∧ wx.cell? ⟨w11.heap.size, 2, none⟩ = some (.slice F2 y.2.2.length f2) ∧ wx.cell? ⟨bk, ok + j * 3, none⟩ = some (.string (bs y.1)) ∧ wx.cell? ⟨b, off + k * 3, none⟩ = some (.string (bs x.1)) from
                ⟨(cells3 ((hb.block _ hg12).trans g12)).1, (cells3 ((hb.block _ hg12).trans g12)).2.1, (cells3 ((hb.block _ hg12).trans g12)).2.2.1, (((b11.trans (b12.mono b11.size)).trans (hb.mono (Nat.le_trans b11.size b12.size))).cell (p := ⟨bk, ok + j * 3, none⟩) (Nat.lt_of_lt_of_le hbk hb9.size)).trans t1, (HCL.out wx (J9.trans ((hb12.trans (hb.mono hb12.size)).mono J9.size))).1⟩))
              have H1 := Lib.hid (fun wx (hb : Below W12.heap.size W12 wx) => refs_any _ [y] wx (HKJ.out wx (hb12.trans (hb.mono hb12.size))) (by simp) (fun z hz => by simp at hz; subst hz; exact hyl.1))
              have H2 := Lib.hid (fun wx (hb : Below W12.heap.size W12 wx) (g : Nat) (hg : wx.heap[g]? = some (.cells #[.string (bs y.1), .slice F1 y.2.1.length f1, .slice F2 y.2.2.length f2] 35)) => refs_any (.slice (some ⟨g, 0, none⟩) 1 1) [y] wx (rowR_one (r := (y.1, .slice F1 y.2.1.length f1, .slice F2 y.2.2.length f2)) hg (X12.out.step hb)) (by simp) (fun z hz => by simp at hz; subst hz; exact hyl.1))
              have i2 : (j : Int) + 1 ≤ (K.length : Int) := by omega
              have i3 : (j : Int) ≤ (j : Int) + 1 := by omega
              have i4 : (j : Int) + 1 ≤ (kc : Int) := by omega
              have hw1 : IntKind.i64.wrap ((j : Int) + 1) = (j : Int) + 1 := IntWalk.i64_in _ (by omega)
              have ht1 : ((j : Int) + 1).toNat = j + 1 := by omega
              have ht2 : j + 1 - j = 1 := by omega
              clear hfind hfp X11 hyx t1 b11 b12 g12 hg12
              go_upto_region 17 with fail
              rw [← hW12]
              clear hW12
              go_region_held3 (fun wx => wx.cell? ⟨w11.heap.size, 0, none⟩ = some (.string (bs y.1)) ∧ wx.cell? ⟨w11.heap.size, 1, none⟩ = some (.slice F1 y.2.1.length f1) ∧ wx.cell? ⟨w11.heap.size, 2, none⟩ = some (.slice F2 y.2.2.length f2) ∧ wx.cell? ⟨bk, ok + j * 3, none⟩ = some (.string (bs y.1)) ∧ wx.cell? ⟨b, off + k * 3, none⟩ = some (.string (bs x.1)))
                (exact HS.out _ (by first | assumption | exact (Below.refl _ _).drew | exact Below.refl _ _ | exact Dr (Bal (Below.refl _ _)) | exact Bal (Below.refl _ _)))
                (first
                | (go_at_call 16; refine (same_any (q := true) _ _ [y] [y] (by simp) x8 (Q7.step b8) S8 (by simp) (by simp) (fun z hz => by simp at hz; subst hz; exact hyl) (fun z hz => by simp at hz; subst hz; exact hyl)).mono ?_; rintro e x9 ⟨rfl, nq, rfl⟩; have a9 := below_via a8 (below_of_drewN (a := x8) (B := x8.heap.size) nq); clear Q7 S8 b8; dsimp only)
                | (go_at_call 15; have yy := a7; refine (H1.out _ a7).mono ?_; rintro e x8 ⟨v8, rfl, S8, b8⟩; have a8 : Below W12.heap.size W12 x8 := below_via a7 b8; dsimp only)
                | (go_at_call 15; refine (H2.out _ (Dr (Bal (Below.refl _ _))) _ (heap_alloc_new _ _)).mono ?_; rintro e x7 ⟨v7, rfl, Q7, b7⟩; have a7 : Below W12.heap.size W12 x7 := below_via (Dr (Bal (Below.refl _ _))) b7; clear b7; dsimp only))
              go_wp2_with fail
              go_roundw
              case rel => exact ⟨j + 1, by omega, by go_num, hb12.trans (a9.mono hb12.size)⟩
              case measure => simp [RowKit.intOf]; omega
          · obtain rfl : j = K.length := by omega
            have n1 : ¬ (K.length : Int) < (K.length : Int) := by omega
            go_wp2_with fail
            go_roundw
            case rel => exact ⟨k + 1, by omega, by go_num, by rw [HST.out, HML.out]; exact M10.out, J10⟩
            case measure => simp [RowKit.intOf]; omega
    · obtain rfl : k = L.length := by omega
      have n1 : ¬ (L.length : Int) < (L.length : Int) := by omega
      have HBR := Lib.hid (below_via HB1.out hbel)
      go_wp2_with fail
      refine (fixed_any wr (HG.out.below HBR.out)).mono ?_
      rintro e y2 ⟨rfl, c2⟩
      go_wp2_with fail
      go_ret
      exact ⟨rfl, below_via HBR.out c2⟩
end Go.Proofs.YtiogmegdkfnkkaaDoor
