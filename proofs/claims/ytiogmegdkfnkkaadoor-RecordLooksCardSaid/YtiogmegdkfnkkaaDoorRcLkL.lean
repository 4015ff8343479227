/- RecordLooks. -/
import Derived.Test.YtiogmegdkfnkkaaDoorRcFx
import Derived.Test.YtiogmegdkfnkkaaDoorQ6
import Derived.Test.YtiogmegdkfnkkaaDoorQ7
import Derived.Test.YtiogmegdkfnkkaaDoorQ15
import Derived.Test.YtiogmegdkfnkkaaDoorQ11
import Derived.IntWalk
namespace Go.Proofs.YtiogmegdkfnkkaaDoor
open Go.RowKit Tx

theorem RowR.cutTo {w : World} {B n c k : Nat} {A : Option Addr} {l : List Rc.Rec} (h : RowR w B (.slice A n c) l) (hk : k ≤ l.length) : RowR w B (.slice A k c) (l.take k) := by
  obtain ⟨rs, h1, h2, h3⟩ := h
  refine ⟨rs.take k, h1.cutTo (by omega), by simp [h2], fun i hi hi' => ?_⟩
  simp only [List.getElem_take]
  exact h3 i (by simp at hi; omega) (by simp at hi'; omega)
theorem sl_cell {x : World} {R : Nat} {s : ByteArray} {A1 A2 : Option Addr} {n1 c1 n2 c2 : Nat} {t : TypeId} {k : Nat} {u : Value} (h : x.heap[R]? = some (.cells #[.string s, .slice A1 n1 c1, .slice A2 n2 c2] t (0, 0))) (hu : x.cell? ⟨R, k + 1, none⟩ = some u) : ∃ A n c, u = .slice A n c := by
  rw [cell_of_row _ R (k + 1) _ t (0, 0) h] at hu
  rcases k with _ | _ | k
  · simp at hu; exact ⟨_, _, _, hu.symm⟩
  · simp at hu; exact ⟨_, _, _, hu.symm⟩
  · simp at hu
theorem recis_set3 {x : World} {R : Nat} {s : ByteArray} {A1 A2 : Option Addr} {n1 c1 n2 c2 : Nat} {t : TypeId} {r : Raw} {y : Rc.Rec} {v0 v1 v2 : Value} (h : x.heap[R]? = some (.cells #[.string s, .slice A1 n1 c1, .slice A2 n2 c2] t (0, 0))) (hr : RecIs x x.heap.size r y) :
    RecIs (((x.setCell ⟨R, 0, none⟩ v0).setCell ⟨R, 1, none⟩ v1).setCell ⟨R, 2, none⟩ v2) (((x.setCell ⟨R, 0, none⟩ v0).setCell ⟨R, 1, none⟩ v1).setCell ⟨R, 2, none⟩ v2).heap.size r y := by
  refine hr.blk (by simp) fun b _ hbl => set3_oth _ _ _ _ _ _ fun e => ?_
  subst e
  rcases hbl with ⟨hne, hbl⟩ | ⟨hne, hbl⟩
  · obtain ⟨A, cap, hv, _, _, h3⟩ := hr.reads.shape
    obtain ⟨b', off, rfl, _, hc⟩ := h3 hne
    rw [hv] at hbl
    simp [blkOf] at hbl
    subst hbl
    have h0 : 0 < y.2.1.length := List.length_pos_iff.2 hne
    have h1 := hc 0 h0 1 _ rfl
    simp only [Nat.zero_mul, Nat.add_zero] at h1
    obtain ⟨_, _, _, e⟩ := sl_cell h h1
    cases e
  · obtain ⟨A, cap, hv, _, _, h3⟩ := hr.writes.shape
    obtain ⟨b', off, rfl, _, hc⟩ := h3 hne
    rw [hv] at hbl
    simp [blkOf] at hbl
    subst hbl
    have h0 : 0 < y.2.2.length := List.length_pos_iff.2 hne
    have h1 := hc 0 h0 1 _ rfl
    simp only [Nat.zero_mul, Nat.add_zero] at h1
    obtain ⟨_, _, _, e⟩ := sl_cell h h1
    cases e
theorem Bal3 {V W : World} (h : Below V.heap.size V W) {o : Obj} : Below V.heap.size V (W.alloc o) := h.alloc h.size o
set_option maxRecDepth 100000 in
set_option maxHeartbeats 16000000 in
theorem looksLaw_any (v0 v1 v2 : Value) (l : List Rc.Rec) (fl : List Wr.F) (nl : List Bs) (w : World) (hr0 : RowR w w.heap.size v0 l) (hok0 : ∀ x ∈ l, RecOk x) (hr1 : RowC 2 ff w w.heap.size v1 fl) (ok1 : ∀ f ∈ fl, FOk f) (hr2 : Row vs w w.heap.size v2 nl) (ok2 : ∀ x ∈ nl, x.length ≤ maxLen) (hg : Gl w) :
    Calls Tryd.prog 3 #[v0, v1, v2] w fun e w' => e = .returned (.bool true) ∧ Below w.heap.size w w' := by
  have HG := Lib.hid hg
  have HOK2 := Lib.hid ok2
  have hcut := cut_any v0 l 6 w hr0 (by decide) hok0
  obtain ⟨hc1, hc2⟩ := cutL_ok l 6
  have hsl : ∀ x ∈ cutL l 6, x.2.1.length < 1000000 ∧ x.2.2.length < 1000000 := fun x hx => ⟨by have := (hc1 x hx).reads.1; omega, by have := (hc1 x hx).writes.1; omega⟩
  have HSL := Lib.hid hsl
  have hN0 := Lib.hid hr2
  have hR0 := Lib.hid hr1
  have HM := Lib.hid (fun wx (h : RowC 2 ff wx wx.heap.size v1 fl) => mapF_any v1 fl 8 120 wx h ok1 (by omega) (by omega))
  have HUP := Lib.hid (mapF_up fl 8 120)
  have hml := mapF_le fl 8 120
  generalize Wr.mapF fl 8 120 = M at *
  generalize cutL l 6 = L at *
  obtain ⟨A2, cap2, rfl, c1, c2, c3⟩ := hr2.shape
  clear hr0 hok0 hr1 ok1 hr2 ok2 hg c3 hc1 hsl
  go_enter Tryd.func3, Tryd.ntmps3
  go_wp2_with fail
  refine hcut.mono ?_
  rintro e w0 ⟨vl, rfl, L0, b0⟩
  obtain ⟨lA, lc, rfl, l1, l2, _⟩ := L0.shape
  have HL0 := Lib.hid L0
  have HR0 := Lib.hid (hR0.out.step b0)
  have HN0 := Lib.hid (hN0.out.step b0)
  have HB0 := Lib.hid b0
  clear hcut L0 hR0 hN0 b0
  go_wp2_with fail
  refine (HM.out _ HR0.out).mono ?_
  rintro e w1 ⟨o1, rfl, M1, _, b1⟩
  obtain ⟨mA, mc, rfl, mc1, mc2, _⟩ := M1.shape
  have hN1 := Lib.hid (HN0.out.step b1)
  have hB1 := Lib.hid (below_via HB0.out b1)
  have HM1 := Lib.hid M1
  have HL1 := Lib.hid (HL0.out.step b1)
  clear HN0 b1 HB0 M1 HR0 HL0
  have hmade : Txs w1.heap.size (w1.alloc (.cells #[] 9)) (.slice (some ⟨w1.heap.size, 0, none⟩) 0 0) [] := World.ownsRow_made w1 #[] 0 (Nat.le_refl _) (by decide) (by simp)
  obtain ⟨n, hn⟩ : ∃ n, n = min nl.length 10 := ⟨_, rfl⟩
  have hn8 : n ≤ 10 := by omega
  have hnl : n ≤ nl.length := by omega
  have hnd : Hid (n = nl.length ∨ n = 10) := Lib.hid (by omega)
  obtain ⟨NS, hNS⟩ : ∃ NS : List Bs, NS = (nl.take n).map (·.take 60) := ⟨_, rfl⟩
  have hNSl : NS.length = n := by rw [hNS]; simp; omega
  have HNS := Lib.hid hNS
  clear hn hNS
  go_upto_block 0 with fail
  go_cut [8] (fun o wx => Txs w1.heap.size wx o NS ∧ Below w1.heap.size w1 wx)
  case first =>
    as_aux_lemma =>
      go_wp2_with fail
      go_loopw [8, 9] (fun o i wr => ∃ k : Nat, k ≤ n ∧ i = .int .i64 k ∧ Txs w1.heap.size wr o ((nl.take k).map (·.take 60)) ∧ Below w1.heap.size w1 wr) (fun _ i _ => n - (RowKit.intOf i).toNat)
      case atStart => exact ⟨0, Nat.zero_le _, rfl, hmade, (Below.refl _ _).alloc (Nat.le_refl _) _⟩
      case round =>
        clear hmade
        obtain ⟨k, hk, rfl, ho, hbel⟩ := hrel
        have hle := hbel.size
        by_cases hlt : k < n
        · have hkl : k < nl.length := by omega
          obtain ⟨A', c', e', _, _, hc⟩ := hN1.out.shape
          injection e' with e1 _ e2
          subst e1 e2
          obtain ⟨b, off, rfl, hbl, hc⟩ := hc (by rintro rfl; simp at hkl)
          have d0 := (hbel.cell (p := ⟨b, off + k, none⟩) hbl).trans (hc k hkl)
          have hxl := HOK2.out _ (List.getElem_mem hkl)
          have HS := Lib.hid (take_map_at (·.take 60) nl k hkl)
          have hol : ((nl.take k).map (·.take 60)).length ≤ 10 := by simp; omega
          have hkI : (k : Int) < (nl.length : Int) := by omega
          have hk8 : (k : Int) < 10 := by omega
          have hk0 : (0 : Int) ≤ (k : Int) := by omega
          generalize nl[k] = x at *
          have hx60 := xext_minr x 60
          simp only [show ((60 : Nat) : Int) = 60 from rfl] at hx60
          simp only [maxLen] at hxl
          have hxs := bs_size x
          have i1 : (0 : Int) ≤ min ((bs x).size : Int) 60 := by omega
          have i2 : min ((bs x).size : Int) 60 ≤ ((bs x).size : Int) := by omega
          generalize x.take 60 = y at *
          generalize (nl.take k).map (·.take 60) = LL at *
          have HO := Lib.hid ho
          clear hc ho hxs hxl
          go_upto_region 7 with fail
          go_region_held3 (fun wx => wx.cell? ⟨b, off + k, none⟩ = some (.string (bs x))) (first | go_keep | exact (h9.cell (p := ⟨b, off + k, none⟩) hbl).trans (Lib.cell?_alloc_marked _ d0)) ((refine step_text (by rfl) (.tmp 31) (.tmp 43) (by rfl) w1.heap.size _ LL y (by rfl) wr.heap.size (by rfl) (heap_alloc_new _ _) (HO.out.below ((Below.refl _ _).alloc (Nat.le_refl _) _).drew) (by simp; omega) (by omega) ?_; intro v' w4 h8 h9))
          go_wp2_with fail
          go_roundw
          case rel => exact ⟨k + 1, by omega, by go_num, by rw [HS.out]; exact h8, (hbel.alloc hle _).drew.trans h9⟩
          case measure => simp [RowKit.intOf]; omega
        · obtain rfl : k = n := by omega
          rw [← HNS.out] at ho
          rcases hnd.out with hkI | hkI
          · have q1 : (nl.length : Int) ≤ (k : Int) := by omega
            go_wp2_with fail
            go_meet
            exact ⟨ho, hbel⟩
          · by_cases hkl : k < nl.length
            · have q1 : (k : Int) < (nl.length : Int) := by omega
              have q2 : (10 : Int) ≤ (k : Int) := by omega
              have q3 : decide ((k : Int) < 10) = false := decide_eq_false (by omega)
              have q4 : decide (k < 10) = false := decide_eq_false (by omega)
              go_wp2_with fail
              go_meet
              exact ⟨ho, hbel⟩
            · have q1 : (nl.length : Int) ≤ (k : Int) := by omega
              go_wp2_with fail
              go_meet
              exact ⟨ho, hbel⟩
  case rest =>
    obtain ⟨ho, hbel⟩ := hcut
    clear hmade
    obtain ⟨w2, hw2⟩ : ∃ w2, w2 = wc := ⟨_, rfl⟩
    subst hw2
    have hB2 := Lib.hid (below_via hB1.out hbel)
    have HM2 := Lib.hid (HM1.out.step hbel)
    have HL2 := Lib.hid (HL1.out.step hbel)
    have HR2 := Lib.hid ho.row
    have hlk := lookTo_len M NS NS.length
    have hlk2 : (Rc.look M NS).length < 1000000 := by show (Rc.lookTo M NS NS.length).length < _; omega
    clear ho hbel hB1 HM1 hN1 HL1 hlk
    have H1 := Lib.hid (look_any _ _ M NS w2 HM2.out HR2.out HUP.out (by omega) (by omega))
    go_wp2_with fail
    refine H1.out.mono ?_
    rintro e w3 ⟨k3, rfl, K3, _, b3⟩
    have H2 := Lib.hid (lseens_any k3 _ w3 K3 hlk2)
    have hB3 := Lib.hid (below_via hB2.out b3)
    have HM3 := Lib.hid (HM2.out.step b3)
    have HL3 := Lib.hid (HL2.out.step b3)
    have HR3 := Lib.hid (HR2.out.step b3)
    clear H1 K3 b3 hB2 HM2 HL2 HR2
    go_wp2_with fail
    refine H2.out.mono ?_
    rintro e w4 ⟨k4, rfl, K4, _, b4⟩
    have hB4 := Lib.hid (below_via hB3.out b4)
    have HM4 := Lib.hid (HM3.out.step b4)
    have HL4 := Lib.hid (HL3.out.step b4)
    have HR4 := Lib.hid (HR3.out.step b4)
    have HK4 := Lib.hid K4
    clear H2 K4 b4 hB3 HM3 HL3 HR3
    have H1 := Lib.hid (rlook_any _ _ M NS w4 HM4.out HR4.out (by omega) (by omega))
    go_wp2_with fail
    refine H1.out.mono ?_
    rintro e w5 ⟨k5, rfl, K5, _, b5⟩
    have hB5 := Lib.hid (below_via hB4.out b5)
    have HM5 := Lib.hid (HM4.out.step b5)
    have HL5 := Lib.hid (HL4.out.step b5)
    have HR5 := Lib.hid (HR4.out.step b5)
    have H2 := Lib.hid (seens_b (q := true) k4 k5 _ _ w5 (HK4.out.step b5) K5 hlk2 hlk2 (by simp))
    clear H1 K5 b5 hB4 HM4 HL4 HR4 HK4
    go_wp2_with fail
    refine H2.out.mono ?_
    rintro e w6 ⟨rfl, nq, hw6⟩
    have b6 : Below w5.heap.size w5 w6 := by rw [hw6]; exact below_of_drewN (a := w5) (B := w5.heap.size) nq
    have HB6 := Lib.hid (below_via hB5.out b6)
    have HM6 := Lib.hid (HM5.out.step b6)
    have HL6 := Lib.hid (HL5.out.step b6)
    have HR6 := Lib.hid (HR5.out.step b6)
    clear H2 hw6 b6 hB5 HM5 HL5 HR5 hlk2
    have HRL := Lib.hid (fun wx (hb : Below w6.heap.size w6 wx) => HL6.out.step hb)
    have HMM := Lib.hid (fun wx (hb : Below w6.heap.size w6 wx) => HM6.out.step hb)
    obtain ⟨A', c', e', _, _, hc6⟩ := HL6.out.shape
    injection e' with e1 _ e2
    subst e1 e2
    have HC6 := Lib.hid hc6
    have hns10 : NS.length ≤ 10 := by omega
    clear hc6 HM6 HL6 hNSl
    go_upto_block 2 with fail
    go_cut [] (fun wx => Below w6.heap.size w6 wx)
    case first =>
      go_wp2_with fail
      go_loopw [10] (fun i wr => ∃ k : Nat, k ≤ L.length ∧ i = .int .i64 k ∧ Below w6.heap.size w6 wr) (fun i _ => L.length - (RowKit.intOf i).toNat)
      case atStart => exact ⟨0, Nat.zero_le _, rfl, Below.refl _ _⟩
      case round =>
        obtain ⟨k, hk, rfl, hbel⟩ := hrel
        by_cases hkt : k < L.length
        · obtain ⟨b, off, rfl, hbl, ⟨z0, r1, r2⟩, ⟨j1, j2, j3⟩, hrec⟩ := HC6.out k hkt
          have hx := HSL.out _ (List.getElem_mem hkt)
          generalize hxe : L[k]'hkt = x at hrec hx
          have HXE := Lib.hid hxe
          have HKL := Lib.hid hkt
          obtain ⟨B1, p1, B2, p2, hr3⟩ := hrec.rows
          injection hr3 with e1 e2
          injection e2 with e2 e3
          subst e1 e2 e3
          simp only at j1 j2 j3
          have HCL := Lib.hid (fun wx (hb : Below w6.heap.size w6 wx) => (show wx.cell? ⟨b, off + k * 3, none⟩ = some (.string (bs x.1)) ∧ wx.cell? ⟨b, off + k * 3 + 1, none⟩ = some (.slice B1 x.2.1.length p1) ∧ wx.cell? ⟨b, off + k * 3 + 2, none⟩ = some (.slice B2 x.2.2.length p2) from
            ⟨(hb.cell (p := ⟨b, off + k * 3, none⟩) hbl).trans j1, (hb.cell (p := ⟨b, off + k * 3 + 1, none⟩) hbl).trans j2, (hb.cell (p := ⟨b, off + k * 3 + 2, none⟩) hbl).trans j3⟩))
          have HXR := Lib.hid (fun wx (hb : Below w6.heap.size w6 wx) => (hrec.below hb (Nat.le_refl _)).more hb.size)
          have hPL : ∀ y ∈ Rc.putR L x, y.2.1.length < 1000000 ∧ y.2.2.length < 1000000 := fun y hy => by
            rcases putR_mem hy with rfl | h
            · exact hx
            · exact HSL.out y h
          have hPT : ∀ y ∈ Rc.putR (L.take k) x, y.2.1.length < 1000000 ∧ y.2.2.length < 1000000 := fun y hy => by
            rcases putR_mem hy with rfl | h
            · exact hx
            · exact HSL.out y (List.mem_of_mem_take h)
          have hpl := put_le L x
          have hpt := put_le (L.take k) x
          have htl : (L.take k).length = k := by simp; omega
          have H13 := Lib.hid (fun wx (hb : Below w6.heap.size w6 wx) => fresh_any _ x _ M wx (HXR.out wx hb) (HMM.out wx hb) HUP.out (by omega) hx.1 hx.2)
          have H15 := Lib.hid (fun wx (hb : Below w6.heap.size w6 wx) => refs_any _ L wx (HRL.out wx hb) (by omega) (fun y hy => (HSL.out y hy).1))
          have H15t := Lib.hid (fun wx (hb : Below w6.heap.size w6 wx) => refs_any _ (L.take k) wx ((HRL.out wx hb).cutTo (k := k) (by omega)) (by omega) (fun y hy => (HSL.out y (List.mem_of_mem_take hy)).1))
          have H14 := Lib.hid (fun (rz : Raw) wx (hb : Below w6.heap.size w6 wx) (hz : RecIs wx wx.heap.size rz x) => rfresh_any rz x _ M wx hz (HMM.out wx hb) (by omega) hx.1 hx.2)
          have H17 := Lib.hid (fun wx (hb : Below w6.heap.size w6 wx) => put_any _ L _ x wx (HRL.out wx hb) (HXR.out wx hb) (by omega) (fun y hy => ⟨by have := (HSL.out y hy).1; omega, by have := (HSL.out y hy).2; omega⟩) ⟨by omega, by omega⟩)
          have H17t := Lib.hid (fun wx (hb : Below w6.heap.size w6 wx) => put_any _ (L.take k) _ x wx ((HRL.out wx hb).cutTo (k := k) (by omega)) (HXR.out wx hb) (by omega) (fun y hy => ⟨by have := (HSL.out y (List.mem_of_mem_take hy)).1; omega, by have := (HSL.out y (List.mem_of_mem_take hy)).2; omega⟩) ⟨by omega, by omega⟩)
          dsimp only at H13 H17 H17t
          have hsl : ∀ m, slAddr (some ⟨b, off, none⟩) 0 m 3 = some ⟨b, off, none⟩ := fun m => slAddr_zero _ _ _ _
          have i0 : (0 : Int) ≤ (k : Int) := by omega
          have i1 : (k : Int) < (L.length : Int) := by omega
          have i2 : (k : Int) ≤ (lc : Int) := by omega
          clear j1 j2 j3 hrec hxe
          generalize hfr : Rc.fresh x M = q at *
          have hqq : (q != q) = false := by simp
          clear hfr
          go_upto_region 13 with fail
          obtain ⟨k1, k2, k3⟩ := HCL.out wr hbel
          go_cut [115] (fun bv wx => bv = .bool false ∧ Below w6.heap.size w6 wx)
          case first =>
            as_aux_lemma =>
              refine wp_region_headS 50 (fun wx : World => wx.cell? ⟨b, off + k * 3, none⟩ = some (.string (bs x.1)) ∧ wx.cell? ⟨b, off + k * 3 + 1, none⟩ = some (.slice B1 x.2.1.length p1) ∧ wx.cell? ⟨b, off + k * 3 + 2, none⟩ = some (.slice B2 x.2.2.length p2)) (by kernel_rfl) (by kernel_rfl) ?_
              refine WS_take (i := 0) (v := ?v0) (by simp only [List.getElem?_toArray, List.getElem?_cons_zero]; rfl) (by decide) (by kernel_rfl) (by kernel_rfl) (by intro _ _ _ h; exact h) (Or.inl ⟨by rfl, ?hy0⟩) (HCL.out _ (Dr hbel)) ?rest0
              case hy0 =>
                intro wx hx
                obtain ⟨s1, s2, s3⟩ := hx
                go_simp
                try with_reducible rfl
              try simp only [Act.put, List.setIfInBounds_toArray, List.set_cons_zero, List.set_cons_succ]
              refine WS_take (i := 1) (v := ?v1) (by simp only [List.getElem?_toArray, List.getElem?_cons_succ, List.getElem?_cons_zero]; rfl) (by decide) (by kernel_rfl) (by kernel_rfl) (by intro _ _ _ h; exact h) (Or.inl ⟨by rfl, ?hy1⟩) (HCL.out _ (Dr hbel)) ?rest1
              case hy1 =>
                intro wx hx
                obtain ⟨s1, s2, s3⟩ := hx
                go_simp
                try with_reducible rfl
              try simp only [Act.put, List.setIfInBounds_toArray, List.set_cons_zero, List.set_cons_succ]
              refine WS_take (i := 2) (v := ?v2) (by simp only [List.getElem?_toArray, List.getElem?_cons_succ, List.getElem?_cons_zero]; rfl) (by decide) (by kernel_rfl) (by kernel_rfl) (by intro _ _ _ h; exact h) (Or.inl ⟨by rfl, ?hy2⟩) (HCL.out _ (Dr hbel)) ?rest2
              case hy2 =>
                intro wx hx
                obtain ⟨s1, s2, s3⟩ := hx
                go_simp
                try with_reducible rfl
              try simp only [Act.put, List.setIfInBounds_toArray, List.set_cons_zero, List.set_cons_succ]
              refine WS_take (i := 3) (v := ?v3) (by simp only [List.getElem?_toArray, List.getElem?_cons_succ, List.getElem?_cons_zero]; rfl) (by decide) (by kernel_rfl) (by kernel_rfl) (by intro _ _ _ h; exact h) (Or.inl ⟨by rfl, ?hy3⟩) (HCL.out _ (Dr hbel)) ?rest3
              case hy3 =>
                intro wx hx
                obtain ⟨s1, s2, s3⟩ := hx
                go_simp
                try with_reducible rfl
              try simp only [Act.put, List.setIfInBounds_toArray, List.set_cons_zero, List.set_cons_succ]
              refine WS_take (i := 4) (v := ?v4) (by simp only [List.getElem?_toArray, List.getElem?_cons_succ, List.getElem?_cons_zero]; rfl) (by decide) (by kernel_rfl) (by kernel_rfl) (by intro _ _ _ h; exact h) (Or.inl ⟨by rfl, ?hy4⟩) (HCL.out _ (Dr hbel)) ?rest4
              case hy4 =>
                intro wx hx
                obtain ⟨s1, s2, s3⟩ := hx
                go_simp
                try with_reducible rfl
              try simp only [Act.put, List.setIfInBounds_toArray, List.set_cons_zero, List.set_cons_succ]
              refine WS_take (i := 6) (v := ?v6) (by simp only [List.getElem?_toArray, List.getElem?_cons_succ, List.getElem?_cons_zero]; rfl) (by decide) (by kernel_rfl) (by kernel_rfl) (by intro _ _ _ h; exact h) (Or.inl ⟨by rfl, ?hy6⟩) (HCL.out _ (Dr hbel)) ?rest6
              case hy6 =>
                intro wx hx
                obtain ⟨s1, s2, s3⟩ := hx
                go_simp
                try with_reducible rfl
              try simp only [Act.put, List.setIfInBounds_toArray, List.set_cons_zero, List.set_cons_succ]
              refine WS_take (i := 8) (v := ?v8) (by simp only [List.getElem?_toArray, List.getElem?_cons_succ, List.getElem?_cons_zero]; rfl) (by decide) (by kernel_rfl) (by kernel_rfl) (by intro _ _ _ h; exact h) (Or.inl ⟨by rfl, ?hy8⟩) (HCL.out _ (Dr hbel)) ?rest8
              case hy8 =>
                intro wx hx
                obtain ⟨s1, s2, s3⟩ := hx
                go_simp
                try with_reducible rfl
              try simp only [Act.put, List.setIfInBounds_toArray, List.set_cons_zero, List.set_cons_succ]
              refine WS_take (i := 11) (v := ?v11) (by simp only [List.getElem?_toArray, List.getElem?_cons_succ, List.getElem?_cons_zero]; rfl) (by decide) (by kernel_rfl) (by kernel_rfl) (by intro _ _ _ h; exact h) (Or.inl ⟨by rfl, ?hy11⟩) (HCL.out _ (Dr hbel)) ?rest11
              case hy11 =>
                intro wx hx
                obtain ⟨s1, s2, s3⟩ := hx
                go_simp
                try with_reducible rfl
              try simp only [Act.put, List.setIfInBounds_toArray, List.set_cons_zero, List.set_cons_succ]
              refine WS_one (i := 5) (by simp only [List.getElem?_toArray, List.getElem?_cons_succ, List.getElem?_cons_zero]; rfl) (by decide) (by kernel_rfl) (fun K hK => (if_pos (by kernel_rfl)).mpr ?_)
              go_simp
              refine (H13.out _ (Dr hbel)).mono ?_
              rintro e x1 ⟨rfl, c1⟩
              have a1 : Below w6.heap.size w6 x1 := below_via (Dr hbel) c1
              dsimp only
              refine hK _ _ (HCL.out _ a1) ?_
              clear hK K
              try simp only [Act.put, List.setIfInBounds_toArray, List.set_cons_zero, List.set_cons_succ]
              refine WS_one (i := 7) (by simp only [List.getElem?_toArray, List.getElem?_cons_succ, List.getElem?_cons_zero]; rfl) (by decide) (by kernel_rfl) (fun K hK => (if_pos (by kernel_rfl)).mpr ?_)
              go_simp
              refine (H15.out _ a1).mono ?_
              rintro e x2 ⟨v2, rfl, Q2, c2⟩
              have a2 : Below w6.heap.size w6 x2 := below_via a1 c2
              obtain ⟨qA2, qc2, rfl, _, _, q3⟩ := Q2.shape
              obtain ⟨qb2, qo2, rfl, _, ⟨m1, m2, m3⟩, ⟨t1, t2, t3⟩, RX2⟩ := q3 k HKL.out
              rw [HXE.out] at RX2
              clear q3
              dsimp only
              refine hK _ _ (HCL.out _ a2) ?_
              clear hK K
              try simp only [Act.put, List.setIfInBounds_toArray, List.set_cons_zero, List.set_cons_succ]
              refine WS_take (i := 9) (v := ?v9) (by simp only [List.getElem?_toArray, List.getElem?_cons_succ, List.getElem?_cons_zero]; rfl) (by decide) (by kernel_rfl) (by kernel_rfl) (by intro _ _ _ h; exact h) (Or.inl ⟨by rfl, ?hy9⟩) (HCL.out _ a2) ?rest9
              case hy9 =>
                intro wx hx
                obtain ⟨s1, s2, s3⟩ := hx
                go_simp
                try with_reducible rfl
              try simp only [Act.put, List.setIfInBounds_toArray, List.set_cons_zero, List.set_cons_succ]
              refine WS_one (i := 10) (by simp only [List.getElem?_toArray, List.getElem?_cons_succ, List.getElem?_cons_zero]; rfl) (by decide) (by kernel_rfl) (fun K hK => (if_pos (by kernel_rfl)).mpr ?_)
              go_simp
              refine hK _ _ (HCL.out _ a2) ?_
              clear hK K
              try simp only [Act.put, List.setIfInBounds_toArray, List.set_cons_zero, List.set_cons_succ]
              refine WS_one (i := 12) (by simp only [List.getElem?_toArray, List.getElem?_cons_succ, List.getElem?_cons_zero]; rfl) (by decide) (by kernel_rfl) (fun K hK => (if_pos (by kernel_rfl)).mpr ?_)
              go_simp
              refine (H14.out _ _ a2 RX2).mono ?_
              rintro e x3 ⟨rfl, c3⟩
              have a3 : Below w6.heap.size w6 x3 := below_via a2 c3
              clear t1 t2 t3
              dsimp only
              refine hK _ _ (HCL.out _ a3) ?_
              clear hK K
              try simp only [Act.put, List.setIfInBounds_toArray, List.set_cons_zero, List.set_cons_succ]
              refine WS_take (i := 13) (v := ?v13) (by simp only [List.getElem?_toArray, List.getElem?_cons_succ, List.getElem?_cons_zero]; rfl) (by decide) (by kernel_rfl) (by kernel_rfl) (by intro _ _ _ h; exact h) (Or.inl ⟨by rfl, ?hy13⟩) (HCL.out _ a3) ?rest13
              case hy13 =>
                intro wx hx
                obtain ⟨s1, s2, s3⟩ := hx
                go_simp
                try with_reducible rfl
              try simp only [Act.put, List.setIfInBounds_toArray, List.set_cons_zero, List.set_cons_succ]
              refine WS_take (i := 14) (v := ?v14) (by simp only [List.getElem?_toArray, List.getElem?_cons_succ, List.getElem?_cons_zero]; rfl) (by decide) (by kernel_rfl) (by kernel_rfl) (by intro _ _ _ h; exact h) (Or.inl ⟨by rfl, ?hy14⟩) (HCL.out _ a3) ?rest14
              case hy14 =>
                intro wx hx
                obtain ⟨s1, s2, s3⟩ := hx
                go_simp
                try with_reducible rfl
              try simp only [Act.put, List.setIfInBounds_toArray, List.set_cons_zero, List.set_cons_succ]
              refine WS_take (i := 15) (v := ?v15) (by simp only [List.getElem?_toArray, List.getElem?_cons_succ, List.getElem?_cons_zero]; rfl) (by decide) (by kernel_rfl) (by kernel_rfl) (by intro _ _ _ h; exact h) (Or.inl ⟨by rfl, ?hy15⟩) (HCL.out _ a3) ?rest15
              case hy15 =>
                intro wx hx
                obtain ⟨s1, s2, s3⟩ := hx
                go_simp
                try with_reducible rfl
              try simp only [Act.put, List.setIfInBounds_toArray, List.set_cons_zero, List.set_cons_succ]
              refine WS_take (i := 16) (v := ?v16) (by simp only [List.getElem?_toArray, List.getElem?_cons_succ, List.getElem?_cons_zero]; rfl) (by decide) (by kernel_rfl) (by kernel_rfl) (by intro _ _ _ h; exact h) (Or.inl ⟨by rfl, ?hy16⟩) (HCL.out _ a3) ?rest16
              case hy16 =>
                intro wx hx
                obtain ⟨s1, s2, s3⟩ := hx
                go_simp
                try with_reducible rfl
              try simp only [Act.put, List.setIfInBounds_toArray, List.set_cons_zero, List.set_cons_succ]
              refine WS_take (i := 17) (v := ?v17) (by simp only [List.getElem?_toArray, List.getElem?_cons_succ, List.getElem?_cons_zero]; rfl) (by decide) (by kernel_rfl) (by kernel_rfl) (by intro _ _ _ h; exact h) (Or.inl ⟨by rfl, ?hy17⟩) (HCL.out _ a3) ?rest17
              case hy17 =>
                intro wx hx
                obtain ⟨s1, s2, s3⟩ := hx
                go_simp
                try with_reducible rfl
              try simp only [Act.put, List.setIfInBounds_toArray, List.set_cons_zero, List.set_cons_succ]
              refine WS_take (i := 18) (v := ?v18) (by simp only [List.getElem?_toArray, List.getElem?_cons_succ, List.getElem?_cons_zero]; rfl) (by decide) (by kernel_rfl) (by kernel_rfl) (by intro _ _ _ h; exact h) (Or.inl ⟨by rfl, ?hy18⟩) (HCL.out _ a3) ?rest18
              case hy18 =>
                intro wx hx
                obtain ⟨s1, s2, s3⟩ := hx
                go_simp
                try with_reducible rfl
              try simp only [Act.put, List.setIfInBounds_toArray, List.set_cons_zero, List.set_cons_succ]
              refine WS_take (i := 19) (v := ?v19) (by simp only [List.getElem?_toArray, List.getElem?_cons_succ, List.getElem?_cons_zero]; rfl) (by decide) (by kernel_rfl) (by kernel_rfl) (by intro _ _ _ h; exact h) (Or.inl ⟨by rfl, ?hy19⟩) (HCL.out _ a3) ?rest19
              case hy19 =>
                intro wx hx
                obtain ⟨s1, s2, s3⟩ := hx
                go_simp
                try with_reducible rfl
              try simp only [Act.put, List.setIfInBounds_toArray, List.set_cons_zero, List.set_cons_succ]
              refine WS_take (i := 22) (v := ?v22) (by simp only [List.getElem?_toArray, List.getElem?_cons_succ, List.getElem?_cons_zero]; rfl) (by decide) (by kernel_rfl) (by kernel_rfl) (by intro _ _ _ h; exact h) (Or.inl ⟨by rfl, ?hy22⟩) (HCL.out _ a3) ?rest22
              case hy22 =>
                intro wx hx
                obtain ⟨s1, s2, s3⟩ := hx
                go_simp
                try with_reducible rfl
              try simp only [Act.put, List.setIfInBounds_toArray, List.set_cons_zero, List.set_cons_succ]
              refine WS_take (i := 24) (v := ?v24) (by simp only [List.getElem?_toArray, List.getElem?_cons_succ, List.getElem?_cons_zero]; rfl) (by decide) (by kernel_rfl) (by kernel_rfl) (by intro _ _ _ h; exact h) (Or.inl ⟨by rfl, ?hy24⟩) (HCL.out _ a3) ?rest24
              case hy24 =>
                intro wx hx
                obtain ⟨s1, s2, s3⟩ := hx
                go_simp
                try with_reducible rfl
              try simp only [Act.put, List.setIfInBounds_toArray, List.set_cons_zero, List.set_cons_succ]
              refine WS_take (i := 26) (v := ?v26) (by simp only [List.getElem?_toArray, List.getElem?_cons_succ, List.getElem?_cons_zero]; rfl) (by decide) (by kernel_rfl) (by kernel_rfl) (by intro _ _ _ h; exact h) (Or.inl ⟨by rfl, ?hy26⟩) (HCL.out _ a3) ?rest26
              case hy26 =>
                intro wx hx
                obtain ⟨s1, s2, s3⟩ := hx
                go_simp
                try with_reducible rfl
              try simp only [Act.put, List.setIfInBounds_toArray, List.set_cons_zero, List.set_cons_succ]
              refine WS_one (i := 20) (by simp only [List.getElem?_toArray, List.getElem?_cons_succ, List.getElem?_cons_zero]; rfl) (by decide) (by kernel_rfl) (fun K hK => (if_pos (by kernel_rfl)).mpr ?_)
              go_simp
              refine (H17.out _ a3).mono ?_
              rintro e x4 ⟨v4, rfl, P4, c4⟩
              have a4 : Below w6.heap.size w6 x4 := below_via a3 c4
              dsimp only
              refine hK _ _ (HCL.out _ a4) ?_
              clear hK K
              try simp only [Act.put, List.setIfInBounds_toArray, List.set_cons_zero, List.set_cons_succ]
              refine WS_one (i := 21) (by simp only [List.getElem?_toArray, List.getElem?_cons_succ, List.getElem?_cons_zero]; rfl) (by decide) (by kernel_rfl) (fun K hK => (if_pos (by kernel_rfl)).mpr ?_)
              go_simp
              refine (refs_any _ (Rc.putR L x) _ P4 (by omega) (fun y hy => (hPL y hy).1)).mono ?_
              rintro e x5 ⟨v5, rfl, Q5, c5⟩
              have a5 : Below w6.heap.size w6 x5 := below_via a4 c5
              dsimp only
              refine hK _ _ (HCL.out _ a5) ?_
              clear hK K
              try simp only [Act.put, List.setIfInBounds_toArray, List.set_cons_zero, List.set_cons_succ]
              refine WS_one (i := 23) (by simp only [List.getElem?_toArray, List.getElem?_cons_succ, List.getElem?_cons_zero]; rfl) (by decide) (by kernel_rfl) (fun K hK => (if_pos (by kernel_rfl)).mpr ?_)
              go_simp
              refine (H15.out _ a5).mono ?_
              rintro e x6 ⟨v6, rfl, Q6, c6⟩
              have a6 : Below w6.heap.size w6 x6 := below_via a5 c6
              dsimp only
              refine hK _ _ (HCL.out _ a6) ?_
              clear hK K
              try simp only [Act.put, List.setIfInBounds_toArray, List.set_cons_zero, List.set_cons_succ]
              refine WS_one (i := 25) (by simp only [List.getElem?_toArray, List.getElem?_cons_succ, List.getElem?_cons_zero]; rfl) (by decide) (by kernel_rfl) (fun K hK => (if_pos (by kernel_rfl)).mpr ?_)
              go_simp
              refine (H15.out _ a6).mono ?_
              rintro e x7 ⟨v7, rfl, Q7, c7⟩
              have a7 : Below w6.heap.size w6 x7 := below_via a6 c7
              obtain ⟨qA7, qc7, rfl, _, _, q3⟩ := Q7.shape
              obtain ⟨qb7, qo7, rfl, _, ⟨m1, m2, m3⟩, ⟨t1, t2, t3⟩, RX7⟩ := q3 k HKL.out
              rw [HXE.out] at RX7
              clear q3
              dsimp only
              refine hK _ _ (HCL.out _ a7) ?_
              clear hK K
              try simp only [Act.put, List.setIfInBounds_toArray, List.set_cons_zero, List.set_cons_succ]
              refine WS_take (i := 27) (v := ?v27) (by simp only [List.getElem?_toArray, List.getElem?_cons_succ, List.getElem?_cons_zero]; rfl) (by decide) (by kernel_rfl) (by kernel_rfl) (by intro _ _ _ h; exact h) (Or.inl ⟨by rfl, ?hy27⟩) (HCL.out _ a7) ?rest27
              case hy27 =>
                intro wx hx
                obtain ⟨s1, s2, s3⟩ := hx
                go_simp
                try with_reducible rfl
              try simp only [Act.put, List.setIfInBounds_toArray, List.set_cons_zero, List.set_cons_succ]
              refine WS_one (i := 28) (by simp only [List.getElem?_toArray, List.getElem?_cons_succ, List.getElem?_cons_zero]; rfl) (by decide) (by kernel_rfl) (fun K hK => (if_pos (by kernel_rfl)).mpr ?_)
              go_simp
              refine hK _ _ (HCL.out _ a7) ?_
              clear hK K
              try simp only [Act.put, List.setIfInBounds_toArray, List.set_cons_zero, List.set_cons_succ]
              refine WS_one (i := 29) (by simp only [List.getElem?_toArray, List.getElem?_cons_succ, List.getElem?_cons_zero]; rfl) (by decide) (by kernel_rfl) (fun K hK => (if_pos (by kernel_rfl)).mpr ?_)
              go_simp
              refine (r20put_any _ L _ x _ (Q6.step c7) RX7 (by omega)).mono ?_
              rintro e x8 ⟨v8, rfl, P8, c8⟩
              have a8 : Below w6.heap.size w6 x8 := below_via a7 c8
              clear t1 t2 t3
              dsimp only
              refine hK _ _ (HCL.out _ a8) ?_
              clear hK K
              try simp only [Act.put, List.setIfInBounds_toArray, List.set_cons_zero, List.set_cons_succ]
              refine WS_one (i := 30) (by simp only [List.getElem?_toArray, List.getElem?_cons_succ, List.getElem?_cons_zero]; rfl) (by decide) (by kernel_rfl) (fun K hK => (if_pos (by kernel_rfl)).mpr ?_)
              go_simp
              refine (same_any (q := true) _ _ (Rc.putR L x) (Rc.putR L x) (by simp) _ (((Q5.step c6).step c7).step c8) P8 (by omega) (by omega) hPL hPL).mono ?_
              rintro e x9 ⟨rfl, nq9, h9⟩
              have c9 : Below x8.heap.size x8 x9 := (by rw [h9] <;> exact below_of_drewN (a := x8) (B := x8.heap.size) nq9)
              clear h9
              have a9 : Below w6.heap.size w6 x9 := below_via a8 c9
              dsimp only
              refine hK _ _ (HCL.out _ a9) ?_
              clear hK K
              try simp only [Act.put, List.setIfInBounds_toArray, List.set_cons_zero, List.set_cons_succ]
              refine WS_take (i := 31) (v := ?v31) (by simp only [List.getElem?_toArray, List.getElem?_cons_succ, List.getElem?_cons_zero]; rfl) (by decide) (by kernel_rfl) (by kernel_rfl) (by intro _ _ _ h; exact h) (Or.inl ⟨by rfl, ?hy31⟩) (HCL.out _ a9) ?rest31
              case hy31 =>
                intro wx hx
                obtain ⟨s1, s2, s3⟩ := hx
                go_simp
                try with_reducible rfl
              try simp only [Act.put, List.setIfInBounds_toArray, List.set_cons_zero, List.set_cons_succ]
              refine WS_take (i := 32) (v := ?v32) (by simp only [List.getElem?_toArray, List.getElem?_cons_succ, List.getElem?_cons_zero]; rfl) (by decide) (by kernel_rfl) (by kernel_rfl) (by intro _ _ _ h; exact h) (Or.inl ⟨by rfl, ?hy32⟩) (HCL.out _ a9) ?rest32
              case hy32 =>
                intro wx hx
                obtain ⟨s1, s2, s3⟩ := hx
                go_simp
                try with_reducible rfl
              try simp only [Act.put, List.setIfInBounds_toArray, List.set_cons_zero, List.set_cons_succ]
              refine WS_take (i := 33) (v := ?v33) (by simp only [List.getElem?_toArray, List.getElem?_cons_succ, List.getElem?_cons_zero]; rfl) (by decide) (by kernel_rfl) (by kernel_rfl) (by intro _ _ _ h; exact h) (Or.inl ⟨by rfl, ?hy33⟩) (HCL.out _ a9) ?rest33
              case hy33 =>
                intro wx hx
                obtain ⟨s1, s2, s3⟩ := hx
                go_simp
                try with_reducible rfl
              try simp only [Act.put, List.setIfInBounds_toArray, List.set_cons_zero, List.set_cons_succ]
              refine WS_take (i := 34) (v := ?v34) (by simp only [List.getElem?_toArray, List.getElem?_cons_succ, List.getElem?_cons_zero]; rfl) (by decide) (by kernel_rfl) (by kernel_rfl) (by intro _ _ _ h; exact h) (Or.inl ⟨by rfl, ?hy34⟩) (HCL.out _ a9) ?rest34
              case hy34 =>
                intro wx hx
                obtain ⟨s1, s2, s3⟩ := hx
                go_simp
                try with_reducible rfl
              try simp only [Act.put, List.setIfInBounds_toArray, List.set_cons_zero, List.set_cons_succ]
              refine WS_take (i := 35) (v := ?v35) (by simp only [List.getElem?_toArray, List.getElem?_cons_succ, List.getElem?_cons_zero]; rfl) (by decide) (by kernel_rfl) (by kernel_rfl) (by intro _ _ _ h; exact h) (Or.inl ⟨by rfl, ?hy35⟩) (HCL.out _ a9) ?rest35
              case hy35 =>
                intro wx hx
                obtain ⟨s1, s2, s3⟩ := hx
                go_simp
                try with_reducible rfl
              try simp only [Act.put, List.setIfInBounds_toArray, List.set_cons_zero, List.set_cons_succ]
              refine WS_take (i := 36) (v := ?v36) (by simp only [List.getElem?_toArray, List.getElem?_cons_succ, List.getElem?_cons_zero]; rfl) (by decide) (by kernel_rfl) (by kernel_rfl) (by intro _ _ _ h; exact h) (Or.inl ⟨by rfl, ?hy36⟩) (HCL.out _ a9) ?rest36
              case hy36 =>
                intro wx hx
                obtain ⟨s1, s2, s3⟩ := hx
                go_simp
                try with_reducible rfl
              try simp only [Act.put, List.setIfInBounds_toArray, List.set_cons_zero, List.set_cons_succ]
              refine WS_take (i := 37) (v := ?v37) (by simp only [List.getElem?_toArray, List.getElem?_cons_succ, List.getElem?_cons_zero]; rfl) (by decide) (by kernel_rfl) (by kernel_rfl) (by intro _ _ _ h; exact h) (Or.inl ⟨by rfl, ?hy37⟩) (HCL.out _ a9) ?rest37
              case hy37 =>
                intro wx hx
                obtain ⟨s1, s2, s3⟩ := hx
                go_simp
                try with_reducible rfl
              try simp only [Act.put, List.setIfInBounds_toArray, List.set_cons_zero, List.set_cons_succ]
              refine WS_take (i := 38) (v := ?v38) (by simp only [List.getElem?_toArray, List.getElem?_cons_succ, List.getElem?_cons_zero]; rfl) (by decide) (by kernel_rfl) (by kernel_rfl) (by intro _ _ _ h; exact h) (Or.inl ⟨by rfl, ?hy38⟩) (HCL.out _ a9) ?rest38
              case hy38 =>
                intro wx hx
                obtain ⟨s1, s2, s3⟩ := hx
                go_simp
                try with_reducible rfl
              try simp only [Act.put, List.setIfInBounds_toArray, List.set_cons_zero, List.set_cons_succ]
              refine WS_take (i := 39) (v := ?v39) (by simp only [List.getElem?_toArray, List.getElem?_cons_succ, List.getElem?_cons_zero]; rfl) (by decide) (by kernel_rfl) (by kernel_rfl) (by intro _ _ _ h; exact h) (Or.inl ⟨by rfl, ?hy39⟩) (HCL.out _ a9) ?rest39
              case hy39 =>
                intro wx hx
                obtain ⟨s1, s2, s3⟩ := hx
                go_simp
                try with_reducible rfl
              try simp only [Act.put, List.setIfInBounds_toArray, List.set_cons_zero, List.set_cons_succ]
              refine WS_take (i := 40) (v := ?v40) (by simp only [List.getElem?_toArray, List.getElem?_cons_succ, List.getElem?_cons_zero]; rfl) (by decide) (by kernel_rfl) (by kernel_rfl) (by intro _ _ _ h; exact h) (Or.inl ⟨by rfl, ?hy40⟩) (HCL.out _ a9) ?rest40
              case hy40 =>
                intro wx hx
                obtain ⟨s1, s2, s3⟩ := hx
                go_simp
                try with_reducible rfl
              try simp only [Act.put, List.setIfInBounds_toArray, List.set_cons_zero, List.set_cons_succ]
              refine WS_take (i := 43) (v := ?v43) (by simp only [List.getElem?_toArray, List.getElem?_cons_succ, List.getElem?_cons_zero]; rfl) (by decide) (by kernel_rfl) (by kernel_rfl) (by intro _ _ _ h; exact h) (Or.inl ⟨by rfl, ?hy43⟩) (HCL.out _ a9) ?rest43
              case hy43 =>
                intro wx hx
                obtain ⟨s1, s2, s3⟩ := hx
                go_simp
                try with_reducible rfl
              try simp only [Act.put, List.setIfInBounds_toArray, List.set_cons_zero, List.set_cons_succ]
              refine WS_take (i := 44) (v := ?v44) (by simp only [List.getElem?_toArray, List.getElem?_cons_succ, List.getElem?_cons_zero]; rfl) (by decide) (by kernel_rfl) (by kernel_rfl) (by intro _ _ _ h; exact h) (Or.inl ⟨by rfl, ?hy44⟩) (HCL.out _ a9) ?rest44
              case hy44 =>
                intro wx hx
                obtain ⟨s1, s2, s3⟩ := hx
                go_simp
                try with_reducible rfl
              try simp only [Act.put, List.setIfInBounds_toArray, List.set_cons_zero, List.set_cons_succ]
              refine WS_take (i := 45) (v := ?v45) (by simp only [List.getElem?_toArray, List.getElem?_cons_succ, List.getElem?_cons_zero]; rfl) (by decide) (by kernel_rfl) (by kernel_rfl) (by intro _ _ _ h; exact h) (Or.inl ⟨by rfl, ?hy45⟩) (HCL.out _ a9) ?rest45
              case hy45 =>
                intro wx hx
                obtain ⟨s1, s2, s3⟩ := hx
                go_simp
                try with_reducible rfl
              try simp only [Act.put, List.setIfInBounds_toArray, List.set_cons_zero, List.set_cons_succ]
              refine WS_take (i := 47) (v := ?v47) (by simp only [List.getElem?_toArray, List.getElem?_cons_succ, List.getElem?_cons_zero]; rfl) (by decide) (by kernel_rfl) (by kernel_rfl) (by intro _ _ _ h; exact h) (Or.inl ⟨by rfl, ?hy47⟩) (HCL.out _ a9) ?rest47
              case hy47 =>
                intro wx hx
                obtain ⟨s1, s2, s3⟩ := hx
                go_simp
                try with_reducible rfl
              try simp only [Act.put, List.setIfInBounds_toArray, List.set_cons_zero, List.set_cons_succ]
              refine WS_take (i := 49) (v := ?v49) (by simp only [List.getElem?_toArray, List.getElem?_cons_succ, List.getElem?_cons_zero]; rfl) (by decide) (by kernel_rfl) (by kernel_rfl) (by intro _ _ _ h; exact h) (Or.inl ⟨by rfl, ?hy49⟩) (HCL.out _ a9) ?rest49
              case hy49 =>
                intro wx hx
                obtain ⟨s1, s2, s3⟩ := hx
                go_simp
                try with_reducible rfl
              try simp only [Act.put, List.setIfInBounds_toArray, List.set_cons_zero, List.set_cons_succ]
              refine WS_one (i := 41) (by simp only [List.getElem?_toArray, List.getElem?_cons_succ, List.getElem?_cons_zero]; rfl) (by decide) (by kernel_rfl) (fun K hK => (if_pos (by kernel_rfl)).mpr ?_)
              go_simp
              refine (H17t.out _ a9).mono ?_
              rintro e x10 ⟨v10, rfl, P10, c10⟩
              have a10 : Below w6.heap.size w6 x10 := below_via a9 c10
              dsimp only
              refine hK _ _ (HCL.out _ a10) ?_
              clear hK K
              try simp only [Act.put, List.setIfInBounds_toArray, List.set_cons_zero, List.set_cons_succ]
              refine WS_one (i := 42) (by simp only [List.getElem?_toArray, List.getElem?_cons_succ, List.getElem?_cons_zero]; rfl) (by decide) (by kernel_rfl) (fun K hK => (if_pos (by kernel_rfl)).mpr ?_)
              go_simp
              refine (refs_any _ (Rc.putR (L.take k) x) _ P10 (by omega) (fun y hy => (hPT y hy).1)).mono ?_
              rintro e x11 ⟨v11, rfl, Q11, c11⟩
              have a11 : Below w6.heap.size w6 x11 := below_via a10 c11
              dsimp only
              refine hK _ _ (HCL.out _ a11) ?_
              clear hK K
              try simp only [Act.put, List.setIfInBounds_toArray, List.set_cons_zero, List.set_cons_succ]
              refine WS_one (i := 46) (by simp only [List.getElem?_toArray, List.getElem?_cons_succ, List.getElem?_cons_zero]; rfl) (by decide) (by kernel_rfl) (fun K hK => (if_pos (by kernel_rfl)).mpr ?_)
              go_simp
              refine (H15t.out _ a11).mono ?_
              rintro e x12 ⟨v12, rfl, Q12, c12⟩
              have a12 : Below w6.heap.size w6 x12 := below_via a11 c12
              dsimp only
              refine hK _ _ (HCL.out _ a12) ?_
              clear hK K
              try simp only [Act.put, List.setIfInBounds_toArray, List.set_cons_zero, List.set_cons_succ]
              refine WS_one (i := 48) (by simp only [List.getElem?_toArray, List.getElem?_cons_succ, List.getElem?_cons_zero]; rfl) (by decide) (by kernel_rfl) (fun K hK => (if_pos (by kernel_rfl)).mpr ?_)
              go_simp
              refine (H15.out _ a12).mono ?_
              rintro e x13 ⟨v13, rfl, Q13, c13⟩
              have a13 : Below w6.heap.size w6 x13 := below_via a12 c13
              obtain ⟨qA13, qc13, rfl, _, _, q3⟩ := Q13.shape
              obtain ⟨qb13, qo13, rfl, _, ⟨m1, m2, m3⟩, ⟨t1, t2, t3⟩, RX13⟩ := q3 k HKL.out
              rw [HXE.out] at RX13
              clear q3
              dsimp only
              refine hK _ _ (HCL.out _ a13) ?_
              clear hK K
              try simp only [Act.put, List.setIfInBounds_toArray, List.set_cons_zero, List.set_cons_succ]
              refine WS_done (by kernel_rfl) ?_
              simp only [List.drop_succ_cons, List.drop_zero]
              go_wp2_with fail
              refine (r20put_any _ (L.take k) _ x _ (Q12.step c13) RX13 (by omega)).mono ?_
              rintro e x14 ⟨v14, rfl, P14, c14⟩
              have a14 : Below w6.heap.size w6 x14 := below_via a13 c14
              clear t1 t2 t3
              go_wp2_with fail
              refine (same_any (q := true) _ _ (Rc.putR (L.take k) x) (Rc.putR (L.take k) x) (by simp) _ (((Q11.step c12).step c13).step c14) P14 (by omega) (by omega) hPT hPT).mono ?_
              rintro e x15 ⟨rfl, nq15, h15⟩
              have c15 : Below x14.heap.size x14 x15 := by rw [h15]; exact below_of_drewN (a := x14) (B := x14.heap.size) nq15
              have a15 : Below w6.heap.size w6 x15 := below_via a14 c15
              clear h15
              go_wp2_with fail
              go_meet
              exact ⟨rfl, a15⟩
          case rest =>
            obtain ⟨rfl, hbel2⟩ := hcut
            go_wp2_with fail
            go_roundw
            case rel => exact ⟨k + 1, by have := HKL.out; omega, by go_num, hbel2⟩
            case measure => have := HKL.out; simp [RowKit.intOf]; omega
        · obtain rfl : k = L.length := by omega
          go_wp2_with fail
          go_meet
          exact hbel
    case rest =>
      have hb7 := hcut
      obtain ⟨w7, hw7⟩ : ∃ w7, w7 = wc := ⟨_, rfl⟩
      subst hw7
      obtain ⟨nA, ncap, rfl, n1, n2, n3⟩ := HR6.out.shape
      have HNC := Lib.hid n3
      have HB7 := Lib.hid (below_via HB6.out hb7)
      have HH7 := Lib.hid hb7
      clear n3 HR6 hb7 hcut
      go_wp2_with fail
      go_loopw [11] (fun i wr => ∃ k : Nat, k ≤ NS.length ∧ i = .int .i64 k ∧ Below w6.heap.size w6 wr) (fun i _ => NS.length - (RowKit.intOf i).toNat)
      case atStart => exact ⟨0, Nat.zero_le _, rfl, HH7.out⟩
      case round =>
        obtain ⟨k, hk, rfl, hbel⟩ := hrel
        by_cases hkt : k < NS.length
        · obtain ⟨b, off, rfl, hbl, hcc⟩ := HNC.out (by rintro rfl; simp at hkt)
          have k1 := hcc k hkt
          have HK1 := Lib.hid (fun wx (hb : Below w6.heap.size w6 wx) => (hb.cell (p := ⟨b, off + k, none⟩) hbl).trans k1)
          generalize NS[k] = nm at *
          have i0 : (0 : Int) ≤ (k : Int) := by omega
          have i1 : (k : Int) < (NS.length : Int) := by omega
          clear hcc k1
          have k1 := HK1.out wr hbel
          have hfind := find_any _ L nm wr (HRL.out wr hbel) (by omega) (fun y hy => ⟨by have := (HSL.out y hy).1; omega, by have := (HSL.out y hy).2; omega⟩)
          go_wp2_with fail
          refine hfind.mono ?_
          rintro e w8 ⟨rz, rfl, X8, c8⟩
          have a8 : Below w6.heap.size w6 w8 := below_via hbel c8
          obtain ⟨C1, s1, C2, s2, rfl⟩ := X8.rows
          have hfl : ((Rc.find L nm).getD ([], [], [])).2.1.length < 1000000 ∧ ((Rc.find L nm).getD ([], [], [])).2.2.length < 1000000 := by
            cases hf : Rc.find L nm with
            | none => simp
            | some y => exact HSL.out y (List.mem_of_find?_eq_some hf)
          have H15 := Lib.hid (fun wx (hb : Below w6.heap.size w6 wx) => refs_any _ L wx (HRL.out wx hb) (by omega) (fun y hy => (HSL.out y hy).1))
          have h20 : ∀ v wx, RowR wx wx.heap.size v L → Calls Tryd.prog 20 #[v, .string (bs nm)] wx (fun e w' => ∃ r : Raw, e = .returned (.tuple #[.agg #[.string (bs r.1), r.2.1, r.2.2], .bool (Rc.find L nm).isSome]) ∧ RecIs w' w'.heap.size r ((Rc.find L nm).getD ([], [], [])) ∧ Below wx.heap.size wx w') := fun v wx hr => rfind_any v L nm wx hr (by omega)
          generalize (Rc.find L nm).isSome = q at *
          generalize (Rc.find L nm).getD ([], [], []) = y at *
          have H20 := Lib.hid h20
          clear hfind k1 h20
          go_upto_region 19 with fail
          obtain ⟨W9, hW9⟩ : ∃ W, W = w8.alloc (.cells #[.string (bs y.1), .slice C1 y.2.1.length s1, .slice C2 y.2.2.length s2] 35) := ⟨_, rfl⟩
          rw [← hW9]
          have c9 : Below w8.heap.size w8 W9 := by rw [hW9]; exact (Below.refl _ _).alloc (Nat.le_refl _) _
          have g9 : W9.heap[w8.heap.size]? = some (.cells #[.string (bs y.1), .slice C1 y.2.1.length s1, .slice C2 y.2.2.length s2] 35 (0, 0)) := by rw [hW9]; exact heap_alloc_new _ _
          have a9 : Below w6.heap.size w6 W9 := below_via a8 c9
          have HX9 := Lib.hid (X8.step c9)
          have k1 := HK1.out W9 a9
          obtain ⟨XB, hXB⟩ : ∃ XB, XB = w8.heap.size := ⟨_, rfl⟩
          rw [← hXB] at g9 ⊢
          clear hW9 c9 hXB X8
          go_cut [14, 15] (fun pv bv wx => ∃ R D1 u1 D2 u2, pv = .pointer (some ⟨R, 0, none⟩) ∧ bv = .bool q ∧ wx.heap[R]? = some (.cells #[.string (bs y.1), .slice D1 y.2.1.length u1, .slice D2 y.2.2.length u2] 38 (0, 0)) ∧ RecIs wx wx.heap.size (y.1, .slice D1 y.2.1.length u1, .slice D2 y.2.2.length u2) y ∧ Below W9.heap.size W9 wx)
          case first =>
            as_aux_lemma =>
              go_region_held3 (fun wx => wx.cell? ⟨b, off + k, none⟩ = some (.string (bs nm)))
                (first | go_keep | exact HK1.out _ (by first | assumption | exact Dr a9 | exact a9 | exact Bal a11 | exact ((a11.setCell (by exact a10.size) _).setCell (by exact a10.size) _).setCell (by exact a10.size) _ | exact ((a11.setCell (by exact a9.size) _).setCell (by exact a9.size) _).setCell (by exact a9.size) _ | exact Bal a9 | exact Dr (Bal a9)))
                (first
                | (go_at_call 20; have yy := g10; refine (H20.out _ _ Q10).mono ?_; rintro e x11 ⟨r11, rfl, X11, c11⟩; have e11 := below_via e10 c11; have a11 := below_via a10 c11; have g11 := (c11.block _ (lt_of_block g10)).trans g10; obtain ⟨D1, u1, D2, u2, rfl⟩ := X11.rows; obtain ⟨d0, d1, d2, f0, f1, f2⟩ := cells3 g11; dsimp only)
                | (go_at_call 20; refine (H20.out _ (x10.alloc (.cells #[.string ⟨#[]⟩, .slice none 0 0, .slice none 0 0] 38)) (Q10.step ((Below.refl _ _).alloc (Nat.le_refl _) _))).mono ?_; rintro e x11 ⟨r11, rfl, X11, c11⟩; have e11 := below_via (Bal (o := .cells #[.string ⟨#[]⟩, .slice none 0 0, .slice none 0 0] 38) e10) c11; have a11 := below_via (Bal (o := .cells #[.string ⟨#[]⟩, .slice none 0 0, .slice none 0 0] 38) a10) c11; have g11 := (c11.block x10.heap.size (by simp)).trans (heap_alloc_new _ _); obtain ⟨D1, u1, D2, u2, rfl⟩ := X11.rows; obtain ⟨d0, d1, d2, f0, f1, f2⟩ := cells3 g11; dsimp only)
                | (go_at_call 20; refine (H20.out _ x10 Q10).mono ?_; rintro e x11 ⟨r11, rfl, X11, c11⟩; have e11 := below_via e10 c11; have a11 := below_via a10 c11; obtain ⟨D1, u1, D2, u2, rfl⟩ := X11.rows; dsimp only)
                | (go_at_call 15; refine (H15.out _ (Dr (Bal (o := .cells #[.string ⟨#[]⟩, .slice none 0 0, .slice none 0 0] 38) a9))).mono ?_; rintro e x10 ⟨v10, rfl, Q10, c10⟩; have e10 : Below W9.heap.size W9 x10 := below_via (Dr (Bal (o := .cells #[.string ⟨#[]⟩, .slice none 0 0, .slice none 0 0] 38) (Below.refl _ _))) c10; have a10 : Below w6.heap.size w6 x10 := below_via a9 e10; have g10 := (c10.block W9.heap.size (by simp)).trans (heap_alloc_new _ _); dsimp only)
                | (go_at_call 15; refine (H15.out _ (Dr a9)).mono ?_; rintro e x10 ⟨v10, rfl, Q10, c10⟩; have e10 : Below W9.heap.size W9 x10 := below_via (Dr (Below.refl _ _)) c10; have a10 : Below w6.heap.size w6 x10 := below_via a9 e10; dsimp only))
              all_goals go_wp2_with fail
              all_goals go_meet
              all_goals first
                | exact ⟨x11.heap.size, D1, u1, D2, u2, rfl, rfl, heap_alloc_new _ _, X11.step ((Below.refl _ _).alloc (Nat.le_refl _) _), Bal e11⟩
                | exact ⟨x10.heap.size, D1, u1, D2, u2, rfl, rfl, set3_same g11, recis_set3 g11 X11, ((e11.setCell (by exact e10.size) _).setCell (by exact e10.size) _).setCell (by exact e10.size) _⟩
                | exact ⟨W9.heap.size, D1, u1, D2, u2, rfl, rfl, set3_same g11, recis_set3 g11 X11, ((e11.setCell (by exact Nat.le_refl _) _).setCell (by exact Nat.le_refl _) _).setCell (by exact Nat.le_refl _) _⟩
          case rest =>
            obtain ⟨R, D1, u1, D2, u2, rfl, rfl, gR, YR, e12⟩ := hcut
            obtain ⟨W, hW⟩ : ∃ W, W = wc := ⟨_, rfl⟩
            subst hW
            have aW := below_via a9 e12
            have gX := (e12.block XB (lt_of_block g9)).trans g9
            have HX := Lib.hid (fun wx (hb : Below W.heap.size W wx) => (HX9.out.step e12).step hb)
            have HY := Lib.hid (fun wx (hb : Below W.heap.size W wx) => YR.step hb)
            have HS := Lib.hid (fun wx (hb : Below W.heap.size W wx) => (show wx.cell? ⟨XB, 0, none⟩ = some (.string (bs y.1)) ∧ wx.cell? ⟨XB, 1, none⟩ = some (.slice C1 y.2.1.length s1) ∧ wx.cell? ⟨XB, 2, none⟩ = some (.slice C2 y.2.2.length s2) ∧ wx.cell? ⟨R, 0, none⟩ = some (.string (bs y.1)) ∧ wx.cell? ⟨R, 1, none⟩ = some (.slice D1 y.2.1.length u1) ∧ wx.cell? ⟨R, 2, none⟩ = some (.slice D2 y.2.2.length u2) from
              ⟨(cells3 ((hb.block _ (lt_of_block gX)).trans gX)).1, (cells3 ((hb.block _ (lt_of_block gX)).trans gX)).2.1, (cells3 ((hb.block _ (lt_of_block gX)).trans gX)).2.2.1, (cells3 ((hb.block _ (lt_of_block gR)).trans gR)).1, (cells3 ((hb.block _ (lt_of_block gR)).trans gR)).2.1, (cells3 ((hb.block _ (lt_of_block gR)).trans gR)).2.2.1⟩))
            have HREF := Lib.hid (fun wx (hb : Below W.heap.size W wx) (g : Nat) (hg : wx.heap[g]? = some (.cells #[.string (bs y.1), .slice C1 y.2.1.length s1, .slice C2 y.2.2.length s2] 35)) => refs_any (.slice (some ⟨g, 0, none⟩) 1 1) [y] wx (rowR_one (r := (y.1, .slice C1 y.2.1.length s1, .slice C2 y.2.2.length s2)) hg (HX.out wx hb)) (by simp) (fun z hz => by simp at hz; subst hz; exact hfl.1))
            have HSA := Lib.hid (fun wx v (hb : Below W.heap.size W wx) (g : Nat) (hg : wx.heap[g]? = some (.cells #[.string (bs y.1), .slice D1 y.2.1.length u1, .slice D2 y.2.2.length u2] 38)) (hq : RowR wx wx.heap.size v [y]) => same_any (q := true) v (.slice (some ⟨g, 0, none⟩) 1 1) [y] [y] (by simp) wx hq (rowR_one (r := (y.1, .slice D1 y.2.1.length u1, .slice D2 y.2.2.length u2)) hg (HY.out wx hb)) (by simp) (by simp) (fun z hz => by simp at hz; subst hz; exact hfl) (fun z hz => by simp at hz; subst hz; exact hfl))
            have hqq : (q != q) = false := by simp
            clear HX9 e12 YR a9 a8 g9 c8 k1
            have hS0 := HS.out W.drew (Dr (Below.refl _ _))
            have hS1 := HS.out (W.alloc (.cells #[.string (bs y.1), .slice C1 y.2.1.length s1, .slice C2 y.2.2.length s2] 35)).drew (Dr (Bal (Below.refl _ _)))
            have hS2 := HS.out (W.alloc (.cells #[.string (bs y.1), .slice D1 y.2.1.length u1, .slice D2 y.2.2.length u2] 38)).drew (Dr (Bal (Below.refl _ _)))
            have hS3 := HS.out ((W.alloc (.cells #[.string (bs y.1), .slice C1 y.2.1.length s1, .slice C2 y.2.2.length s2] 35)).alloc (.cells #[.string (bs y.1), .slice D1 y.2.1.length u1, .slice D2 y.2.2.length u2] 38)).drew (Dr (Bal2 (Below.refl _ _)))
            have hS4 := HS.out ((W.alloc (.cells #[.string (bs y.1), .slice D1 y.2.1.length u1, .slice D2 y.2.2.length u2] 38)).alloc (.cells #[.string (bs y.1), .slice C1 y.2.1.length s1, .slice C2 y.2.2.length s2] 35)).drew (Dr (Bal2 (Below.refl _ _)))
            go_upto_region 20 with fail
            go_cut [152] (fun bv wx => bv = .bool false ∧ Below W.heap.size W wx)
            case first =>
              as_aux_lemma =>
                go_region_held3 (fun wx => wx.cell? ⟨XB, 0, none⟩ = some (.string (bs y.1)) ∧ wx.cell? ⟨XB, 1, none⟩ = some (.slice C1 y.2.1.length s1) ∧ wx.cell? ⟨XB, 2, none⟩ = some (.slice C2 y.2.2.length s2) ∧ wx.cell? ⟨R, 0, none⟩ = some (.string (bs y.1)) ∧ wx.cell? ⟨R, 1, none⟩ = some (.slice D1 y.2.1.length u1) ∧ wx.cell? ⟨R, 2, none⟩ = some (.slice D2 y.2.2.length u2))
                  (first | go_keep | assumption | exact HS.out _ (by first | assumption | exact Dr (Below.refl _ _) | exact Below.refl _ _ | exact Dr (Bal (Below.refl _ _)) | exact Bal (Below.refl _ _) | exact Dr (Bal2 (Below.refl _ _)) | exact Bal2 (Below.refl _ _)))
                  (first
                  | (go_at_call 16; have yy := gY; refine (HSA.out _ _ e13 _ gY Q13).mono ?_; rintro e x14 ⟨rfl, nq, h14⟩; have e14 : Below W.heap.size W x14 := (by rw [h14]; exact below_via e13 (below_of_drewN (a := x13) (B := x13.heap.size) nq)); clear h14; have hS6 := HS.out _ e14; dsimp only)
                  | (go_at_call 16; refine (HSA.out (x13.alloc (.cells #[.string (bs y.1), .slice D1 y.2.1.length u1, .slice D2 y.2.2.length u2] 38)) _ (Bal e13) _ (heap_alloc_new _ _) (Q13.step ((Below.refl _ _).alloc (Nat.le_refl _) _))).mono ?_; rintro e x14 ⟨rfl, nq, h14⟩; have e14 : Below W.heap.size W x14 := (by rw [h14]; exact below_via (Bal (o := .cells #[.string (bs y.1), .slice D1 y.2.1.length u1, .slice D2 y.2.2.length u2] 38) e13) (below_of_drewN (B := World.heap _ |>.size) nq)); clear h14; have hS6 := HS.out _ e14; dsimp only)
                  | (go_at_call 15; (with_reducible refine (HREF.out ((W.alloc (.cells #[.string (bs y.1), .slice C1 y.2.1.length s1, .slice C2 y.2.2.length s2] 35)).alloc (.cells #[.string (bs y.1), .slice D1 y.2.1.length u1, .slice D2 y.2.2.length u2] 38)).drew (Dr (Bal2 (Below.refl _ _))) _ (second_new W (.cells #[.string (bs y.1), .slice C1 y.2.1.length s1, .slice C2 y.2.2.length s2] 35) (.cells #[.string (bs y.1), .slice D1 y.2.1.length u1, .slice D2 y.2.2.length u2] 38))).mono ?_); rintro e x13 ⟨v13, rfl, Q13, c13⟩; have e13 : Below W.heap.size W x13 := below_via (Dr (Bal2 (o := .cells #[.string (bs y.1), .slice C1 y.2.1.length s1, .slice C2 y.2.2.length s2] 35) (o' := .cells #[.string (bs y.1), .slice D1 y.2.1.length u1, .slice D2 y.2.2.length u2] 38) (Below.refl _ _))) c13; have hS5 := HS.out _ e13; have gY := (c13.block (W.heap.size + 1) (by simp)).trans (third_new W (.cells #[.string (bs y.1), .slice C1 y.2.1.length s1, .slice C2 y.2.2.length s2] 35) (.cells #[.string (bs y.1), .slice D1 y.2.1.length u1, .slice D2 y.2.2.length u2] 38)); dsimp only)
                  | (go_at_call 15; (with_reducible refine (HREF.out ((W.alloc (.cells #[.string (bs y.1), .slice D1 y.2.1.length u1, .slice D2 y.2.2.length u2] 38)).alloc (.cells #[.string (bs y.1), .slice C1 y.2.1.length s1, .slice C2 y.2.2.length s2] 35)).drew (Dr (Bal2 (Below.refl _ _))) _ (third_new W (.cells #[.string (bs y.1), .slice D1 y.2.1.length u1, .slice D2 y.2.2.length u2] 38) (.cells #[.string (bs y.1), .slice C1 y.2.1.length s1, .slice C2 y.2.2.length s2] 35))).mono ?_); rintro e x13 ⟨v13, rfl, Q13, c13⟩; have e13 : Below W.heap.size W x13 := below_via (Dr (Bal2 (o := .cells #[.string (bs y.1), .slice D1 y.2.1.length u1, .slice D2 y.2.2.length u2] 38) (o' := .cells #[.string (bs y.1), .slice C1 y.2.1.length s1, .slice C2 y.2.2.length s2] 35) (Below.refl _ _))) c13; have hS5 := HS.out _ e13; have gY := (c13.block W.heap.size (by simp; omega)).trans (second_new W (.cells #[.string (bs y.1), .slice D1 y.2.1.length u1, .slice D2 y.2.2.length u2] 38) (.cells #[.string (bs y.1), .slice C1 y.2.1.length s1, .slice C2 y.2.2.length s2] 35)); dsimp only)
                  | (go_at_call 15; (with_reducible refine (HREF.out (W.alloc (.cells #[.string (bs y.1), .slice C1 y.2.1.length s1, .slice C2 y.2.2.length s2] 35)).drew (Dr (Bal (Below.refl _ _))) _ (heap_alloc_new W (.cells #[.string (bs y.1), .slice C1 y.2.1.length s1, .slice C2 y.2.2.length s2] 35))).mono ?_); rintro e x13 ⟨v13, rfl, Q13, c13⟩; have e13 : Below W.heap.size W x13 := below_via (Dr (Bal (o := .cells #[.string (bs y.1), .slice C1 y.2.1.length s1, .slice C2 y.2.2.length s2] 35) (Below.refl _ _))) c13; have hS5 := HS.out _ e13; have hS7 := HS.out (x13.alloc (.cells #[.string (bs y.1), .slice D1 y.2.1.length u1, .slice D2 y.2.2.length u2] 38)) (Bal e13); dsimp only))
                all_goals go_wp2_with fail
                all_goals go_meet
                all_goals exact ⟨rfl, e14⟩
            case rest =>
              obtain ⟨rfl, e15⟩ := hcut
              have a15 := below_via aW e15
              go_wp2_with fail
              go_roundw
              case rel => exact ⟨k + 1, by omega, by go_num, a15⟩
              case measure => simp [RowKit.intOf]; omega
        · obtain rfl : k = NS.length := by omega
          go_wp2_with fail
          refine (fixed_any wr (HG.out.below (below_via HB6.out hbel))).mono ?_
          rintro e w9 ⟨rfl, c9⟩
          go_wp2_with fail
          go_ret
          exact ⟨rfl, below_via (below_via HB6.out hbel) c9⟩
end Go.Proofs.YtiogmegdkfnkkaaDoor
