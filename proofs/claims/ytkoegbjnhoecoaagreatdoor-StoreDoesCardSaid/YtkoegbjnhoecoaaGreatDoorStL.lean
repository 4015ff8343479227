/- stetlaw05.try: one step over a store. -/
import Derived.Test.YtkoegbjnhoecoaaGreatDoorStK2
namespace Go.Proofs.YtkoegbjnhoecoaaGreatDoor
open Go.RowKit Tx

/-- Behind a step. -/
def TryPost (B : Nat) (w0 : World) (bd n G C : Nat) (R : List Nat) (e : Ending) (w' : World) : Prop :=
  ∃ (st : Nat) (nv : Value) (La : List Wr.F) (R' : List Nat), e = .returned (.tuple #[.pointer (some ⟨st, 0, none⟩), nv, .bool true]) ∧ Calm B w0 w' bd n st (G + 1) (C + 10) La R' ∧ RowK B R' st w' nv La ∧ Wr.right La = true ∧ ∀ k ∈ R, k ∈ R'
set_option maxRecDepth 100000 in
set_option maxHeartbeats 32000000 in
theorem try_any {B : Nat} {w0 w : World} {bd n sb G C : Nat} {La : List Wr.F} {R : List Nat} (h : Calm B w0 w bd n sb G C La R) (h4 : 4 ≤ n ∧ n ≤ 19) (hG : G ≤ 20) (hC : C ≤ 2000) (nv : Value) (hK : RowK B R sb w nv La) (hr : Wr.right La = true)
    (r : RawS) (x : Stp) (hx : StepIs w0 B r x) (hB0 : B = w0.heap.size) (hg : ∀ wx, Below B w0 wx → Gl wx) :
    Calls Tryz.prog 20 #[.pointer (some ⟨sb, 0, none⟩), .pointer (some ⟨bd, 0, none⟩), nv, .agg #[r.1, .bool r.2.1, .int .i64 r.2.2.1, .bool r.2.2.2.1, r.2.2.2.2]] w (TryPost B w0 bd n G C R) := by
  obtain ⟨fv, raw, lim, crash, kv⟩ := r
  obtain ⟨F, raw', lim', crash', ks⟩ := x
  obtain ⟨q1, q2, q3, q4, q5, q6, q7, q8⟩ := hx
  simp only at q1 q2 q3 q4 q5 q6 q7 q8
  subst q4 q5 q7
  have HF := Lib.hid (fun wx (hb : Below B w0 wx) (hB : B ≤ wx.heap.size) => (q1.below hb (Nat.le_refl _)).more hB)
  have HKS := Lib.hid (fun wx (hb : Below B w0 wx) => q8.below hb (Nat.le_refl _))
  have HFN := Lib.hid q2
  have HFB := Lib.hid q1
  have HWF := Lib.hid q6
  have HOKF := Lib.hid q3
  have HHG := Lib.hid hg
  obtain ⟨fA, fc, rfl, _⟩ := q1.shape
  obtain ⟨kA, kc, rfl, _⟩ := q8.shape
  obtain ⟨nA, nc, rfl, _⟩ := hK.1.shape
  have HCAL := Lib.hid h
  have HK0 := Lib.hid hK
  have HRT := Lib.hid hr
  have hal : La.length ≤ 32 := FOk_right hr
  have hhl := half_le n (by omega)
  have HRZ := Lib.hid (roomZ_eq n (by omega))
  obtain ⟨xb, hxb⟩ : ∃ xb, xb = w.heap.size := ⟨_, rfl⟩
  obtain ⟨W, hW⟩ : ∃ W, W = w.alloc (.cells #[.slice fA F.length fc, .bool raw, .int .i64 lim, .bool crash, .slice kA ks.length kc] 51) := ⟨_, rfl⟩
  have hbW : Below w.heap.size w W := by rw [hW]; exact (Below.refl _ _).alloc (Nat.le_refl _) _
  have hxW : W.heap[xb]? = some (.cells #[.slice fA F.length fc, .bool raw, .int .i64 lim, .bool crash, .slice kA ks.length kc] 51 (0, 0)) := by rw [hW, hxb]; exact heap_alloc_new _ _
  have HC1 := Lib.hid (HCAL.out.more hbW [xb] (fun k hk => by simp only [List.mem_singleton] at hk; subst hk; rw [hxb]; exact ⟨Nat.le_refl _, hxb ▸ lt_of_block hxW⟩))
  have hBW := HC1.out.disk.bel
  have HK1 := Lib.hid (HK0.out.to (R' := [xb] ++ R) (sb' := sb) HCAL.out.disk.bel.2.1 hBW.2.1 hBW.1 (fun k hk hne => ⟨⟨by simp [hk], hne⟩, (hBW.2.2 k (by simp [hk])).1, hbW.block k (HCAL.out.disk.bel.2.2 k hk).1⟩))
  have hsx : sb ≠ xb := by have := HCAL.out.mem.2; omega
  clear q1 q2 q3 q8 hg h hK hr hbW hBW
  obtain ⟨y0, y1, y2, y3, y4⟩ : W.cell? ⟨xb, 0, none⟩ = some (.slice fA F.length fc) ∧ W.cell? ⟨xb, 1, none⟩ = some (.bool raw) ∧ W.cell? ⟨xb, 2, none⟩ = some (.int .i64 lim) ∧ W.cell? ⟨xb, 3, none⟩ = some (.bool crash) ∧ W.cell? ⟨xb, 4, none⟩ = some (.slice kA ks.length kc) := by simp [World.cell?, hxW]
  have HMP := Lib.hid (mapF_own _ F 12 150 W (HF.out W HC1.out.disk.bel.2.1 HC1.out.disk.bel.1) HOKF.out (by omega) (by omega))
  go_enter Tryz.func20, Tryz.ntmps20
  go_wp2_with fail
  rw [← hW, ← hxb]
  clear hW hxb y1 y2 y3 y4
  go_wp2_with fail
  refine HMP.out.mono ?_
  rintro e w2 ⟨vm, rfl, O2, b2⟩
  have hx2 := (b2.block xb (lt_of_block hxW)).trans hxW
  have HC2 := Lib.hid (HC1.out.more b2 vm.ownBlock.toList (fun k hk => O2.lt k (by simpa using hk)))
  have HB2 := Lib.hid HC2.out.disk.bel
  have HK2 := Lib.hid (HK1.out.to (R' := vm.ownBlock.toList ++ ([xb] ++ R)) (sb' := sb) HC1.out.disk.bel.2.1 HB2.out.2.1 HB2.out.1 (fun k hk hne => ⟨⟨List.mem_append_right _ hk, hne⟩, (HB2.out.2.2 k (List.mem_append_right _ hk)).1, b2.block k (HC1.out.disk.bel.2.2 k hk).1⟩))
  have HKM := Lib.hid (rowK_own (B := B) (R := vm.ownBlock.toList ++ ([xb] ++ R)) (sb := sb) O2 (Below.refl _ _) (fun k hk => by simp [hk]) (HC1.out.mem.2))
  have HXR : Hid (xb ∈ vm.ownBlock.toList ++ ([xb] ++ R)) := Lib.hid (by simp)
  have HSUB : Hid (∀ k ∈ R, k ∈ vm.ownBlock.toList ++ ([xb] ++ R)) := Lib.hid (fun k hk => by simp [hk])
  obtain ⟨mA, mn, mc, rfl⟩ : ∃ A n c, vm = .slice A n c := by obtain ⟨A, c, h, _⟩ := (O2.rowC ff_length).shape; exact ⟨A, _, c, h⟩
  have hrM := (Wr.mapF_right F 12 150).right
  have hokM := map150 F
  have HOKM := Lib.hid hokM
  generalize (Value.slice mA mn mc).ownBlock.toList ++ ([xb] ++ R) = R2 at *
  generalize Wr.mapF F 12 150 = M at *
  clear O2 b2 hxW y0 HMP hokM
  obtain ⟨y0, y1, y2, y3, y4⟩ : w2.cell? ⟨xb, 0, none⟩ = some (.slice fA F.length fc) ∧ w2.cell? ⟨xb, 1, none⟩ = some (.bool raw) ∧ w2.cell? ⟨xb, 2, none⟩ = some (.int .i64 lim) ∧ w2.cell? ⟨xb, 3, none⟩ = some (.bool crash) ∧ w2.cell? ⟨xb, 4, none⟩ = some (.slice kA ks.length kc) := by simp [World.cell?, hx2]
  have HX2 := Lib.hid hx2
  clear hx2 y2 y3 y4
  -- the list that is committed
  go_upto_if 22 with fail
  go_cut [11] from 20 to 30 (fun lv wx => wx = w2 ∧ ∃ L : List Wr.F, RowK B R2 sb w2 lv L ∧ (∀ f ∈ L, FOk f) ∧ L.length ≤ 100)
  case first =>
    cases raw with
    | false =>
      go_wp2_with fail
      go_meet
      exact ⟨rfl, M, HKM.out, HOKM.out, by have := FOk_right hrM; omega⟩
    | true =>
      obtain ⟨m, hm⟩ : ∃ m : Nat, m = min F.length 4 := ⟨_, rfl⟩
      have hmi : min (F.length : Int) 4 = (m : Int) := by omega
      have m0 : (0 : Int) ≤ (m : Int) := by omega
      have m1 : (m : Int) ≤ (F.length : Int) := by omega
      have hfc := HFB.out.shape
      obtain ⟨A9, c9, e9, hle9, _⟩ := hfc
      injection e9 with e9a _ e9
      subst e9a e9
      have m2 : (m : Int) ≤ (fc : Int) := by omega
      have HMM := Lib.hid hm
      clear hm
      go_wp2_with fail
      go_meet
      have hml : (F.take m).length = m := by have := HMM.out; simp; omega
      have hrow : RowC 2 ff w2 w2.heap.size (.slice fA m fc) (F.take m) := (HF.out w2 HC2.out.disk.bel.2.1 HC2.out.disk.bel.1).cutTo (k := m) (by omega)
      refine ⟨rfl, F.take m, ⟨?_, ?_, fun hne k hk => .inl ?_⟩, fun f hf => HOKF.out f (List.mem_of_mem_take hf), by omega⟩
      · rw [slAddr00]; exact hrow
      · rw [slAddr00]; exact nilOr_cut HFN.out (by omega)
      · rw [slAddr00] at hk
        rcases HFB.out with ⟨cap, _, _, ⟨h5, _⟩ | ⟨b5, o5, h5, h6, _⟩⟩
        · subst h5; simp at hne
        · injection h5 with h5 _ _
          subst h5
          have hk2 : some b5 = some k := hk
          injection hk2 with hk2
          omega
  case rest =>
    obtain ⟨hwc, L, hKL, hokL, hlen⟩ := hcut
    subst hwc
    obtain ⟨lA, lc, rfl, -⟩ := hKL.1.shape
    have HSD := Lib.hid (show Sides B R2 sb wc xb (.cells #[.slice fA F.length fc, .bool raw, .int .i64 lim, .bool crash, .slice kA ks.length kc] 51 (0, 0)) _ L _ La from ⟨HXR.out, Ne.symm hsx, HX2.out, HK2.out, hKL⟩)
    have HMAY := Lib.hid (may_any _ L (n : Int) wc hKL.1 hokL)
    have HOKL := Lib.hid hokL
    obtain ⟨d, h0, h1, S2, dn, dl, dp, dG, dB, dC⟩ := HC2.out
    have HLEN := Lib.hid (dn ▸ len_in (S2.disk.to_in))
    obtain ⟨z, hz⟩ : ∃ z, z = mayZ L (n : Int) := ⟨_, rfl⟩
    rw [← hz] at HMAY
    have HZ := Lib.hid hz
    have HS2 := Lib.hid S2
    have HDP := Lib.hid (show d.n = (n : Int) ∧ d.lim = none ∧ d.pend = [] ∧ Sq.Good n d.held h0 h1 (Wr.files La) ∧ HBd G h0 h1 ∧ d.cnt ≤ C from ⟨dn, dl, dp, dG, dB, dC⟩)
    clear hKL hokL S2 dn dl dp dG dB dC hz y0 y1 HX2 HXR HK2 HKM
    go_wp2_with fail
    refine HLEN.out.mono ?_
    rintro e w3 ⟨rfl, rfl⟩
    go_wp2_with fail
    refine HMAY.out.mono ?_
    rintro e w3 ⟨rfl, b3⟩
    have HS3 := Lib.hid (HS2.out.below b3)
    have HSD3 := Lib.hid (HSD.out.below (inR_bel HS2.out.disk) b3)
    obtain ⟨y2, y3, y4⟩ : w3.cell? ⟨xb, 2, none⟩ = some (.int .i64 lim) ∧ w3.cell? ⟨xb, 3, none⟩ = some (.bool crash) ∧ w3.cell? ⟨xb, 4, none⟩ = some (.slice kA ks.length kc) := by simp [World.cell?, HSD3.out.box]
    clear b3 y3 y4
    go_upto_if 36 with fail
    go_cut [] from 36 to 40 (fun wx => Sides B R2 sb wx xb (.cells #[.slice fA F.length fc, .bool raw, .int .i64 lim, .bool crash, .slice kA ks.length kc] 51 (0, 0)) (.slice lA L.length lc) L (.slice nA La.length nc) La ∧ ∃ (d : Dk.St) (h0 h1 : Sq.Head), StIn B w0 wx bd d sb h0 h1 La R2 ∧ d.n = (n : Int) ∧ (lim < 0 → d.lim = none) ∧ d.pend = [] ∧ Sq.Good n d.held h0 h1 (Wr.files La) ∧ HBd G h0 h1 ∧ d.cnt ≤ C)
    case first =>
      by_cases hlm : 0 ≤ lim
      · go_wp2_with fail
        refine (limit_inR lim HWF.out HS3.out.disk).mono ?_
        rintro e w4 ⟨rfl, D4, S4⟩
        go_wp2_with fail
        go_meet
        obtain ⟨e1, e2, e3, e4⟩ := HDP.out
        exact ⟨HSD3.out.to (inR_bel HS3.out.disk) (inR_bel D4) (fun _ hk => hk) (fun k hk _ => S4 k hk) (.inl rfl), { d with lim := some lim }, h0, h1, HS3.out.disk_to D4 S4, e1, fun hx => absurd hx (by omega), e3, e4⟩
      · go_wp2_with fail
        go_meet
        obtain ⟨e1, e2, e3, e4⟩ := HDP.out
        exact ⟨HSD3.out, d, h0, h1, HS3.out, e1, fun _ => e2, e3, e4⟩
    case rest =>
      obtain ⟨hsd, d5, g0, g1, S5, en, el, ep, eG, eB, eC⟩ := hcut
      have HS5 := Lib.hid hsd
      have HCM := Lib.hid (commit_aft S5 h4 en el ep eG eB eC (by omega) (by omega) _ hsd.new HOKL.out HRT.out HHG.out)
      have HB5 := Lib.hid (inR_bel S5.disk)
      clear hsd S5 en el ep eG eB eC HDP HS3 HSD3 HMAY HLEN HS2 y2
      go_wp2_with fail
      refine HCM.out.mono ?_
      rintro e w6 ⟨ei, R6, Ln, rfl, A6, u6, m6, hcase⟩
      have HS6 := Lib.hid (HS5.out.to HB5.out A6.2.1 u6 m6 (.inl rfl))
      have HA6 := Lib.hid A6
      have HU6 := Lib.hid (fun k (hk : k ∈ R) => u6 k (HSUB.out k hk))
      rw [← HZ.out] at hcase
      have HCS := Lib.hid hcase
      obtain ⟨y2, y3, y4⟩ : w6.cell? ⟨xb, 2, none⟩ = some (.int .i64 lim) ∧ w6.cell? ⟨xb, 3, none⟩ = some (.bool crash) ∧ w6.cell? ⟨xb, 4, none⟩ = some (.slice kA ks.length kc) := by simp [World.cell?, HS6.out.box]
      clear A6 u6 m6 y3 y4 hcase
      go_upto_region 8 with fail
      go_cut [67] from 44 to 67 (fun bv wx => bv = .bool false ∧ Below w6.heap.size w6 wx)
      case first =>
        rcases HCS.out with ⟨hm, he, _⟩ | ⟨hm, he, _⟩ | ⟨hm, he, hl, _⟩
        · rcases he with he | he
          · subst he hm
            go_wp2_with fail
            go_meet
            exact ⟨rfl, Below.refl _ _⟩
          · subst he hm
            go_wp2_with fail
            go_meet
            exact ⟨rfl, Below.refl _ _⟩
        · subst he hm
          go_wp2_with fail
          go_meet
          exact ⟨rfl, Below.refl _ _⟩
        · have hl2 : ¬ lim < 0 := by omega
          subst he hm
          go_wp2_with fail
          go_meet
          exact ⟨rfl, Below.refl _ _⟩
      case rest =>
        obtain ⟨rfl, b7⟩ := hcut
        obtain ⟨w7, hw7⟩ : ∃ w7, w7 = wc := ⟨_, rfl⟩
        subst hw7
        have HA7 := Lib.hid (HA6.out.below b7)
        have HS7 := Lib.hid (HS6.out.below HA6.out.2.1 b7)
        clear b7 HA6 HS6 y2
        go_upto_if 72 with fail
        go_cut [2] from 68 to 73 (fun v wx => wx = w7 ∧ RowK B R6 sb w7 v Ln)
        case first =>
          rcases HCS.out with ⟨-, he, hL⟩ | ⟨-, he, hL⟩ | ⟨-, he, -, hL⟩
          · rcases he with he | he
            · subst he hL
              go_wp2_with fail
              go_meet
              exact ⟨rfl, HS7.out.now⟩
            · subst he hL
              go_wp2_with fail
              go_meet
              exact ⟨rfl, HS7.out.now⟩
          · subst he hL
            go_wp2_with fail
            go_meet
            exact ⟨rfl, HS7.out.new⟩
          · subst he hL
            go_wp2_with fail
            go_meet
            exact ⟨rfl, HS7.out.now⟩
        case rest =>
          obtain ⟨hwc, hv⟩ := hcut
          subst hwc
          obtain ⟨w7, hw7⟩ : ∃ w7, w7 = wc := ⟨_, rfl⟩
          subst hw7
          obtain ⟨vA, vc, rfl, -⟩ := hv.1.shape
          have HV7 := Lib.hid hv
          have hnl : Ln.length ≤ 32 := FOk_right HA7.out.1
          clear hv
          go_upto_region 13 with fail
          go_cut [87] from 74 to 87 (fun bv wx => bv = .bool false ∧ Below w7.heap.size w7 wx)
          case first =>
            by_cases he : ei = 8
            · subst he
              go_wp2_with fail
              go_meet
              exact ⟨rfl, Below.refl _ _⟩
            · have hef : (ei != 8) = true := by simp [he]
              have HLA := Lib.hid (load_aft HA7.out he (by omega))
              have HPA := Lib.hid (fun wx (hb : Below w7.heap.size w7 wx) => pending_aft (HA7.out.below hb) he)
              have HVX := Lib.hid (fun wx (hb : Below w7.heap.size w7 wx) => HV7.out.1.step hb)
              clear he
              go_wp2_with fail
              refine HLA.out.mono ?_
              rintro e w8 ⟨v8, rfl, O8, b8⟩
              obtain ⟨xA, xn, xc, rfl⟩ : ∃ A n c, v8 = .slice A n c := by obtain ⟨A, c, h, _⟩ := (O8.rowC ff_length).shape; exact ⟨A, _, c, h⟩
              have HO8 := Lib.hid O8
              have HB8 := Lib.hid b8
              clear O8 b8
              go_wp2_with fail
              refine (lsame_any (q := true) _ _ Ln Ln (by simp) w8 (HO8.out.rowC ff_length) (HVX.out w8 HB8.out) (by omega) (by omega)).mono ?_
              rintro e w9 ⟨rfl, nq, h9⟩
              have HB9 := Lib.hid (show Below w7.heap.size w7 w9 by rw [h9]; exact HB8.out.trans (below_of_drewN nq))
              clear h9
              go_wp2_with fail
              refine (HPA.out w9 HB9.out).mono ?_
              rintro e w10 ⟨rfl, rfl⟩
              go_wp2_with fail
              go_meet
              exact ⟨rfl, HB9.out⟩
          case rest =>
            obtain ⟨rfl, b8⟩ := hcut
            obtain ⟨w8, hw8⟩ : ∃ w8, w8 = wc := ⟨_, rfl⟩
            subst hw8
            have HA8 := Lib.hid (HA7.out.below b8)
            have HS8 := Lib.hid (HS7.out.below HA7.out.2.1 b8)
            have HV8 := Lib.hid (HV7.out.go HA7.out.2.1 HA8.out.2.1 (fun _ hk => hk) (fun k hk _ => b8.block k (HA7.out.2.1.2.2 k hk).1) (.inl rfl))
            clear b8 HA7 HS7 HV7
            obtain ⟨y2, y3, y4⟩ : w8.cell? ⟨xb, 2, none⟩ = some (.int .i64 lim) ∧ w8.cell? ⟨xb, 3, none⟩ = some (.bool crash) ∧ w8.cell? ⟨xb, 4, none⟩ = some (.slice kA ks.length kc) := by simp [World.cell?, HS8.out.box]
            by_cases hret : crash = false ∧ lim < 0
            · obtain ⟨rfl, hl0⟩ := hret
              have HN8 : Hid (ei ≠ 8) := Lib.hid (by
                rcases HCS.out with ⟨-, he, -⟩ | ⟨-, he, -⟩ | ⟨-, he, hl, -⟩ <;> omega)
              clear y4
              go_wp2_with fail
              go_ret3
              exact ⟨sb, _, Ln, R6, rfl, HA8.out.calm HN8.out hl0, HV8.out, HA8.out.1, HU6.out⟩
            · go_upto_region 15 with fail
              go_cut [97] from 90 to 97 (fun bv wx => bv = .bool false ∧ Below w8.heap.size w8 wx)
              case first =>
                cases crash with
                | true =>
                  clear hret
                  go_wp2_with fail
                  go_meet
                  exact ⟨rfl, Below.refl _ _⟩
                | false =>
                  have hl0 : ¬ lim < 0 := fun h => hret ⟨rfl, h⟩
                  clear hret
                  go_wp2_with fail
                  go_meet
                  exact ⟨rfl, Below.refl _ _⟩
              case rest =>
                obtain ⟨rfl, b9⟩ := hcut
                obtain ⟨w9, hw9⟩ : ∃ w9, w9 = wc := ⟨_, rfl⟩
                subst hw9
                have HA9 := Lib.hid (HA8.out.below b9)
                have HS9 := Lib.hid (HS8.out.below HA8.out.2.1 b9)
                have HV9 := Lib.hid (HV8.out.go HA8.out.2.1 HA9.out.2.1 (fun _ hk => hk) (fun k hk _ => b9.block k (HA8.out.2.1.2.2 k hk).1) (.inl rfl))
                clear b9 HA8 HS8 HV8 y2 y3 y4 hret
                obtain ⟨y2, y3, y4⟩ : w9.cell? ⟨xb, 2, none⟩ = some (.int .i64 lim) ∧ w9.cell? ⟨xb, 3, none⟩ = some (.bool crash) ∧ w9.cell? ⟨xb, 4, none⟩ = some (.slice kA ks.length kc) := by simp [World.cell?, HS9.out.box]
                have HCR := Lib.hid (crash_aft HA9.out (by omega) HRT.out _ ks (HKS.out w9 HA9.out.2.1.2.1))
                clear y2 y3
                go_wp2_with fail
                refine HCR.out.mono ?_
                rintro e w10 ⟨rfl, S10, Lx, D10, hrx, hcx⟩
                have HS10 := Lib.hid (HS9.out.to HA9.out.2.1 D10.bel (fun _ hk => hk) (fun k hk _ => S10 k hk) (.inl rfl))
                have HV10 := Lib.hid (HV9.out.go HA9.out.2.1 D10.bel (fun _ hk => hk) (fun k hk _ => S10 k hk) (.inl rfl))
                have HD10 := Lib.hid D10
                have HRX := Lib.hid hrx
                have HCX := Lib.hid hcx
                have hxl : Lx.length ≤ 32 := FOk_right hrx
                clear S10 D10 hrx hcx y4
                go_wp2_with fail
                refine (open_calm HD10.out (by omega) (by omega) HRX.out HHG.out).mono ?_
                rintro e w11 ⟨st, R11, rfl, T11, hst, u11, b11⟩
                have HS11 := Lib.hid (HS10.out.to HD10.out.bel T11.disk.bel u11 (fun k hk _ => b11.block k (HD10.out.bel.2.2 k hk).1) (.inr hst))
                have HV11 := Lib.hid (HV10.out.go HD10.out.bel T11.disk.bel u11 (fun k hk _ => b11.block k (HD10.out.bel.2.2 k hk).1) (.inr hst))
                have HC11 := Lib.hid T11
                have HU11 := Lib.hid (fun k (hk : k ∈ R) => u11 k (HU6.out k hk))
                clear T11 hst u11 b11
                go_wp2_with fail
                refine (load_calm HC11.out (by omega)).mono ?_
                rintro e w12 ⟨v12, rfl, O12, b12⟩
                have HC12 := Lib.hid (HC11.out.below b12)
                have HS12 := Lib.hid (HS11.out.below HC11.out.disk.bel b12)
                have HV12 := Lib.hid (HV11.out.go HC11.out.disk.bel HC12.out.disk.bel (fun _ hk => hk) (fun k hk _ => b12.block k (HC11.out.disk.bel.2.2 k hk).1) (.inl rfl))
                obtain ⟨gA, gn, gc, rfl⟩ : ∃ A n c, v12 = .slice A n c := by obtain ⟨A, c, h, _⟩ := (O12.rowC ff_length).shape; exact ⟨A, _, c, h⟩
                have HG12 := Lib.hid (O12.rowC ff_length)
                clear O12 b12
                go_upto_region 22 with fail
                go_cut [125] from 119 to 125 (fun bv wx => bv = .bool (decide (ei = 8 ∧ Lx = L)) ∧ Below w12.heap.size w12 wx)
                case first =>
                  by_cases he : ei = 8
                  · have HSM := Lib.hid (lsame_any (q := decide (Lx = L)) _ _ Lx L (by simp) w12 HG12.out HS12.out.new.1 (by omega) (by omega))
                    have hd : decide (ei = 8 ∧ Lx = L) = decide (Lx = L) := by simp [he]
                    generalize decide (Lx = L) = qx at *
                    have HD := Lib.hid hd
                    subst he
                    clear hd
                    go_wp2_with fail
                    refine HSM.out.mono ?_
                    rintro e w13 ⟨rfl, nq, h13⟩
                    have HB13 := Lib.hid (show Below w12.heap.size w12 w13 by rw [h13]; exact below_of_drewN nq)
                    clear h13
                    go_wp2_with fail
                    go_meet
                    exact ⟨by rw [HD.out], HB13.out⟩
                  · have hd : decide (ei = 8 ∧ Lx = L) = false := by simp [he]
                    have hef : (ei == 8) = false := by simp [he]
                    have HD := Lib.hid hd
                    clear he hd
                    go_wp2_with fail
                    go_meet
                    exact ⟨by rw [HD.out], Below.refl _ _⟩
                case rest =>
                  obtain ⟨rfl, b13⟩ := hcut
                  obtain ⟨w13, hw13⟩ : ∃ w13, w13 = wc := ⟨_, rfl⟩
                  subst hw13
                  have HC13 := Lib.hid (HC12.out.below b13)
                  have HS13 := Lib.hid (HS12.out.below HC12.out.disk.bel b13)
                  have HV13 := Lib.hid (HV12.out.go HC12.out.disk.bel HC13.out.disk.bel (fun _ hk => hk) (fun k hk _ => b13.block k (HC12.out.disk.bel.2.2 k hk).1) (.inl rfl))
                  have HG13 := Lib.hid (HG12.out.step b13)
                  clear b13 HC12 HS12 HV12 HG12
                  go_upto_if 125 with fail
                  go_cut [2] from 125 to 126 (fun v wx => wx = w13 ∧ RowK B R11 st w13 v Lx)
                  case first =>
                    by_cases hq : ei = 8 ∧ Lx = L
                    · have hd : decide (ei = 8 ∧ Lx = L) = true := by simp [hq]
                      have HLX := Lib.hid hq.2
                      rw [hd]
                      clear hq hd
                      go_wp2_with fail
                      go_meet
                      exact ⟨rfl, by rw [HLX.out]; exact HS13.out.new⟩
                    · have hd : decide (ei = 8 ∧ Lx = L) = false := by simp only [hq, decide_false]
                      have HLX : Hid (Lx = Ln) := Lib.hid (by
                        rcases HCX.out with ⟨_, h⟩ | ⟨h8, h, h1 | h1⟩
                        · exact h
                        · exact h1.trans h.symm
                        · exact absurd ⟨h8, h1⟩ hq)
                      rw [hd]
                      clear hq hd
                      go_wp2_with fail
                      go_meet
                      exact ⟨rfl, by rw [HLX.out]; exact HV13.out⟩
                  case rest =>
                    obtain ⟨hwc, hv⟩ := hcut
                    subst hwc
                    obtain ⟨tA, tc, rfl, -⟩ := hv.1.shape
                    have HT14 := Lib.hid hv
                    clear hv HV13
                    obtain ⟨w14, hw14⟩ : ∃ w14, w14 = wc := ⟨_, rfl⟩
                    subst hw14
                    have HB := Lib.hid (fun (nq : Nat) => (below_of_drewN nq : Below w14.heap.size w14 (w14.drewN nq)))
                    have HEND := Lib.hid (fun (nq : Nat) => show TryPost B w0 bd n G C R (.returned (.tuple #[.pointer (some ⟨st, 0, none⟩), .slice tA Lx.length tc, .bool true])) (w14.drewN nq) from
                      ⟨st, _, Lx, R11, rfl, HC13.out.below (HB.out nq), HT14.out.go HC13.out.disk.bel (HC13.out.below (HB.out nq)).disk.bel (fun _ hk => hk) (fun k hk _ => (HB.out nq).block k (HC13.out.disk.bel.2.2 k hk).1) (.inl rfl), HRX.out, HU11.out⟩)
                    have HQ1 := Lib.hid (lsame_any (q := true) _ _ Lx Lx (by simp) w14 HG13.out HT14.out.1 (by omega) (by omega))
                    have HQ2 := Lib.hid (fun nq => lsame_any (q := decide (Lx = La)) _ _ Lx La (by simp) (w14.drewN nq) (HG13.out.step (HB.out nq)) (HS13.out.now.1.step (HB.out nq)) (by omega) (by omega))
                    have HQ3 := Lib.hid (fun nq => lsame_any (q := decide (Lx = L)) _ _ Lx L (by simp) (w14.drewN nq) (HG13.out.step (HB.out nq)) (HS13.out.new.1.step (HB.out nq)) (by omega) (by omega))
                    by_cases he : ei = 8
                    · subst he
                      go_wp2_with fail
                      refine HQ1.out.mono ?_
                      rintro e w15 ⟨rfl, nq, rfl⟩
                      go_wp2_with fail
                      go_ret3
                      exact HEND.out nq
                    · have hef : (ei == 8) = false := by simp [he]
                      have HE2 : Hid (Lx = La ∨ Lx = L) := Lib.hid (by
                        rcases HCX.out with ⟨_, h⟩ | ⟨h8, _⟩
                        · rcases HCS.out with ⟨-, -, h2⟩ | ⟨-, -, h2⟩ | ⟨-, h2, -⟩
                          · exact .inl (h.trans h2)
                          · exact .inr (h.trans h2)
                          · exact absurd h2 he
                        · exact absurd h8 he)
                      clear he
                      go_wp2_with fail
                      refine HQ1.out.mono ?_
                      rintro e w15 ⟨rfl, nq, rfl⟩
                      by_cases hla : Lx = La
                      · have HQX := Lib.hid (HQ2.out nq)
                        rw [show decide (Lx = La) = true by simp [hla]] at HQX
                        clear hla
                        go_wp2_with fail
                        refine HQX.out.mono ?_
                        rintro e w16 ⟨rfl, nq2, rfl⟩
                        go_wp2_with fail
                        go_ret3
                        exact (World.drewN_drewN w14 nq nq2) ▸ HEND.out _
                      · have HQX := Lib.hid (HQ2.out nq)
                        rw [show decide (Lx = La) = false by simp [hla]] at HQX
                        have HLL := Lib.hid (HE2.out.resolve_left hla)
                        clear hla
                        go_wp2_with fail
                        refine HQX.out.mono ?_
                        rintro e w16 ⟨rfl, nq2, rfl⟩
                        rw [World.drewN_drewN w14 nq nq2]
                        have HQY := Lib.hid (HQ3.out (nq + nq2))
                        rw [show decide (Lx = L) = true by simp [HLL.out]] at HQY
                        go_wp2_with fail
                        refine HQY.out.mono ?_
                        rintro e w17 ⟨rfl, nq3, rfl⟩
                        go_wp2_with fail
                        go_ret3
                        exact (World.drewN_drewN w14 _ nq3) ▸ HEND.out _
end Go.Proofs.YtkoegbjnhoecoaaGreatDoor
