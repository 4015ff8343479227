/- StoreTwice. -/
import Derived.Test.YtkoegbjnhoecoaaGreatDoorH9
namespace Go.Proofs.YtkoegbjnhoecoaaGreatDoor
open Go.RowKit Tx

set_option maxRecDepth 100000 in
set_option maxHeartbeats 16000000 in
theorem twice_any (v0 v1 v2 : Value) (z0 z1 : List Wr.F) (ks : List Bool) (w : World) (hr0 : RowC 2 ff w w.heap.size v0 z0) (ok0 : ∀ f ∈ z0, FOk f) (hr1 : RowC 2 ff w w.heap.size v1 z1) (ok1 : ∀ f ∈ z1, FOk f) (hr2 : Row Value.bool w w.heap.size v2 ks) (hg0 : Gl w) :
    Calls Tryz.prog 5 #[v0, v1, v2] w fun e w' => e = .returned (.bool true) ∧ Below w.heap.size w w' := by
  have hHG := Lib.hid (gl_from hg0)
  have HR0 := Lib.hid hr0
  have HR1 := Lib.hid hr1
  have HR2 := Lib.hid hr2
  obtain ⟨hra, hla, hoka⟩ := map40 z0
  obtain ⟨hrb, hlb, hokb⟩ := map40 z1
  have HMA := Lib.hid (fun wx (hb : Below w.heap.size w wx) => mapF_own v0 z0 6 40 wx (HR0.out.step hb) ok0 (by omega) (by omega))
  have HMB := Lib.hid (fun wx (hb : Below w.heap.size w wx) => mapF_own v1 z1 6 40 wx (HR1.out.step hb) ok1 (by omega) (by omega))
  obtain ⟨A0, c0, rfl, _⟩ := hr0.shape
  obtain ⟨A1, c1, rfl, _⟩ := hr1.shape
  obtain ⟨A2, c2, rfl, _⟩ := hr2.shape
  generalize Wr.mapF z0 6 40 = LA at *
  generalize Wr.mapF z1 6 40 = LB at *
  have hha : Sq.half 40 = 19 := by decide
  have HOKA := Lib.hid hoka
  have HOKB := Lib.hid hokb
  have hbl : LB.length ≤ 32 := FOk_right hrb
  have hal : LA.length ≤ 32 := FOk_right hra
  have hca : Sq.cnt (Wr.files LA) ≤ 20 := by unfold Sq.cnt; omega
  have hcb : Sq.cnt (Wr.files LB) ≤ 20 := by unfold Sq.cnt; omega
  have hpb := parL_files hrb
  have HRA := Lib.hid hra
  have HRB := Lib.hid hrb
  clear hr0 ok0 hr1 ok1 hr2 hg0 hoka hokb hra hrb
  go_enter Tryz.func5, Tryz.ntmps5
  go_wp2_with fail
  refine (on_calm (n := 40) (by omega) (Nat.le_refl _) (Below.refl _ _) hHG.out).mono ?_
  rintro e w1 ⟨sb, bd, R, rfl, S1, b1, _⟩
  have HS1 := Lib.hid S1
  have HB1 := Lib.hid b1
  have hsb1 : sb < w1.heap.size := S1.mem.2
  clear S1 b1
  go_wp2_with fail
  refine (HMA.out w1 HB1.out).mono ?_
  rintro e w2 ⟨va, rfl, OA, b2⟩
  have HB2 := Lib.hid (below_via HB1.out b2)
  have HOA := Lib.hid OA
  have HX2 := Lib.hid b2
  have hs2 := b2.size
  obtain ⟨aA, an, ac, rfl⟩ : ∃ A n c, va = .slice A n c := by obtain ⟨A, c, h, _⟩ := (OA.rowC ff_length).shape; exact ⟨A, _, c, h⟩
  clear OA b2
  go_wp2_with fail
  refine (HMB.out w2 HB2.out).mono ?_
  rintro e w3 ⟨vb, rfl, OB, b3⟩
  have HOB := Lib.hid OB
  have HX3 := Lib.hid b3
  obtain ⟨bA, bn, bc, rfl⟩ : ∃ A n c, vb = .slice A n c := by obtain ⟨A, c, h, _⟩ := (OB.rowC ff_length).shape; exact ⟨A, _, c, h⟩
  have HS3 := Lib.hid (HS1.out.more (HX2.out.trans (b3.mono hs2)) ((Value.slice aA an ac).ownBlock.toList ++ (Value.slice bA bn bc).ownBlock.toList) (fun k hk => by
    rcases List.mem_append.1 hk with hk | hk
    · have := HOA.out.lt k (by simpa using hk)
      have := b3.size
      omega
    · have := OB.lt k (by simpa using hk)
      omega))
  have HKA := Lib.hid (rowK_own (B := w.heap.size) (R := (Value.slice aA an ac).ownBlock.toList ++ (Value.slice bA bn bc).ownBlock.toList ++ R) (sb := sb) HOA.out b3 (fun k hk => by simp [hk]) hsb1)
  have HKB := Lib.hid (rowK_own (B := w.heap.size) (R := (Value.slice aA an ac).ownBlock.toList ++ (Value.slice bA bn bc).ownBlock.toList ++ R) (sb := sb) OB (Below.refl _ _) (fun k hk => by simp [hk]) (by omega))
  clear OB b3
  go_wp2_with fail
  refine (commit_calm HS3.out (by omega) (by omega) (by omega) _ LA HKA.out HRA.out (by omega) hHG.out).mono ?_
  rintro e w4 ⟨rfl, R4, S4, u4, m4⟩
  have HS4 := Lib.hid S4
  have HKB4 := Lib.hid (HKB.out.to (sb' := sb) HS3.out.disk.bel.2.1 S4.disk.bel.2.1 S4.disk.bel.1 (fun k hk hne => ⟨⟨u4 k hk, hne⟩, (S4.disk.bel.2.2 k (u4 k hk)).1, m4 k hk hne⟩))
  have HKA4 := Lib.hid (HKA.out.to (sb' := sb) HS3.out.disk.bel.2.1 S4.disk.bel.2.1 S4.disk.bel.1 (fun k hk hne => ⟨⟨u4 k hk, hne⟩, (S4.disk.bel.2.2 k (u4 k hk)).1, m4 k hk hne⟩))
  clear S4 u4 m4
  go_wp2_with fail
  refine (commit_calm HS4.out (by omega) (by omega) (by omega) _ LB HKB4.out HRB.out (by omega) hHG.out).mono ?_
  rintro e w5 ⟨rfl, R5, S5, u5, m5⟩
  have HS5 := Lib.hid S5
  have HKB5 := Lib.hid (HKB4.out.to (sb' := sb) HS4.out.disk.bel.2.1 S5.disk.bel.2.1 S5.disk.bel.1 (fun k hk hne => ⟨⟨u5 k hk, hne⟩, (S5.disk.bel.2.2 k (u5 k hk)).1, m5 k hk hne⟩))
  have HKA5 := Lib.hid (HKA4.out.to (sb' := sb) HS4.out.disk.bel.2.1 S5.disk.bel.2.1 S5.disk.bel.1 (fun k hk hne => ⟨⟨u5 k hk, hne⟩, (S5.disk.bel.2.2 k (u5 k hk)).1, m5 k hk hne⟩))
  have HD5 := Lib.hid (S5.disk)
  clear S5 u5 m5
  obtain ⟨C5, hC5⟩ : ∃ C, C = 0 + Sq.cnt (Wr.files LA) + 1 + Sq.cnt (Wr.files LB) + 1 := ⟨_, rfl⟩
  rw [← hC5] at HD5
  have hC5l : C5 ≤ 60 := by omega
  have hbelow5 := HD5.out.bel
  go_upto_block 0 with fail
  go_cut [] (fun wx => DiskIs w.heap.size w wx bd 40 (0 + 1 + 1) C5 LB R5 ∧ ∀ k ∈ R5, wx.heap[k]? = w5.heap[k]?)
  case first =>
    go_wp2_with fail
    go_loopw [11] (fun i wr => ∃ k : Nat, k ≤ 2 ∧ i = .int .i64 k ∧ DiskIs w.heap.size w wr bd 40 (0 + 1 + 1) C5 LB R5 ∧ ∀ k ∈ R5, wr.heap[k]? = w5.heap[k]?) (fun i _ => 2 - (RowKit.intOf i).toNat)
    case atStart => exact ⟨0, by omega, rfl, HD5.out, fun _ _ => rfl⟩
    case round =>
      obtain ⟨k, hk, rfl, hdi, hsm⟩ := hrel
      have HSM := Lib.hid hsm
      clear hsm
      by_cases hlt : k < 2
      · have hki : (k : Int) < 2 := by omega
        go_wp2_with fail
        refine (crash_calmD hdi (by omega) _ ks (bools_to HR2.out hdi.bel.2.1)).mono ?_
        rintro e w6 ⟨rfl, D6, S6⟩
        have HD6 := Lib.hid D6
        have HS6 := Lib.hid S6
        clear D6 S6 hdi
        go_wp2_with fail
        refine (open_calm HD6.out (by omega) (by omega) HRB.out hHG.out).mono ?_
        rintro e w7 ⟨st, R7, rfl, T7, _, u7, b7⟩
        have HT7 := Lib.hid T7
        have HD7 := Lib.hid (T7.disk.sub u7)
        have HB7 := Lib.hid b7
        clear T7 u7 b7
        go_wp2_with fail
        refine (load_calm HT7.out (by omega)).mono ?_
        rintro e w8 ⟨v8, rfl, O8, b8⟩
        have HO8 := Lib.hid O8
        have HD8 := Lib.hid (HD7.out.below b8)
        have HSM8 : Hid (∀ k ∈ R5, w8.heap[k]? = w5.heap[k]?) := Lib.hid (fun k hk => by
          have h6 := HD6.out.bel.2.2 k hk
          have h7 := HB7.out.size
          rw [b8.block k (by omega), HB7.out.block k h6.1, HS6.out k hk, HSM.out k hk])
        obtain ⟨vA, vn, vc, rfl⟩ : ∃ A n c, v8 = .slice A n c := by obtain ⟨A, c, h, _⟩ := (O8.rowC ff_length).shape; exact ⟨A, _, c, h⟩
        have HKB8 := Lib.hid (HKB5.out.to (R' := R5) (sb' := sb) HD5.out.bel.2.1 HD8.out.bel.2.1 HD8.out.bel.1 (fun k hk hne => ⟨⟨hk, hne⟩, (HD8.out.bel.2.2 k hk).1, HSM8.out k hk⟩))
        clear O8 b8
        go_wp2_with fail
        refine (lsame_any (q := true) _ _ LB LB (by simp) w8 (HO8.out.rowC ff_length) HKB8.out.1 (by omega) (by omega)).mono ?_
        rintro e w9 ⟨rfl, nq, h9⟩
        have HD9 := Lib.hid (show DiskIs w.heap.size w w9 bd 40 (0 + 1 + 1) C5 LB R5 by rw [h9]; exact HD8.out.below (below_of_drewN (a := w8) (B := w8.heap.size) nq))
        have HSM9 : Hid (∀ k ∈ R5, w9.heap[k]? = w5.heap[k]?) := Lib.hid (fun k hk => by rw [h9]; exact HSM8.out k hk)
        clear h9
        go_wp2_with fail
        go_roundw
        case rel => exact ⟨k + 1, by omega, by go_num, HD9.out, HSM9.out⟩
        case measure => simp [RowKit.intOf]; omega
      · obtain rfl : k = 2 := by omega
        have HDI := Lib.hid hdi
        clear hdi
        go_wp2_with fail
        go_meet
        exact ⟨HDI.out, HSM.out⟩
  case rest =>
    obtain ⟨hdi, hsm⟩ := hcut
    obtain ⟨w6, hw6⟩ : ∃ w6, w6 = wc := ⟨_, rfl⟩
    subst hw6
    have HSM6 := Lib.hid hsm
    have HD6 := Lib.hid hdi
    clear hdi hsm hbelow5
    obtain ⟨d, h0, h1, k1, k2, k3, k4, k5, k6, k7⟩ := HD6.out
    have HI6 := Lib.hid k1
    have HG6 := Lib.hid k5
    have HBH := Lib.hid k6
    go_wp2_with fail
    refine (limit_inR 0 (by decide) HI6.out).mono ?_
    rintro e w7 ⟨rfl, D7, S7⟩
    have HI7 := Lib.hid D7
    have HS7 := Lib.hid S7
    clear D7 S7 k1 k5
    go_wp2_with fail
    refine (open_any 40 h0 h1 (Wr.files LB) HI7.out k2 (by omega) k4 HG6.out (by have := HBH.out.a0; have := HBH.out.b0; omega) (by have := HBH.out.a1; have := HBH.out.b1; omega) (hHG.out _ HI7.out.2.1)).mono ?_
    rintro e w8 ⟨st, R8, rfl, T8, hst8, u8, b8⟩
    rw [hpb] at T8
    have HT8 := Lib.hid T8
    have HU8 := Lib.hid u8
    have HSM8 : Hid (∀ k ∈ R5, w8.heap[k]? = w5.heap[k]?) := Lib.hid (fun k hk => by
      rw [b8.block k (HI7.out.2.2.1 k hk).1, HS7.out k hk, HSM6.out k hk])
    have HLT : Hid (∀ k ∈ R5, k ≠ st) := Lib.hid (fun k hk => by have := (HI7.out.2.2.1 k hk).1; omega)
    have HKA8 := Lib.hid (HKA5.out.to (R' := R8) (sb' := st) HD5.out.bel.2.1 T8.disk.2.1 T8.disk.1 (fun k hk hne => ⟨⟨u8 k hk, HLT.out k hk⟩, (T8.disk.2.2.1 k (u8 k hk)).1, HSM8.out k hk⟩))
    clear T8 u8 b8 hst8
    go_wp2_with fail
    refine (commit_any 40 (Wr.files LB) _ LA HT8.out HKA8.out k2 (by omega) k4 (by simp only; omega) HG6.out (by have := HBH.out.a0; have := HBH.out.b0; omega) (by have := HBH.out.a1; have := HBH.out.b1; omega) HRA.out (by omega) HOKA.out hHG.out).mono ?_
    rintro e w9 ⟨m9, ⟨_, _, _, _, _, _, _, _, _, hx⟩ | ⟨rfl, d9, D9, base9, _, hc9, _, hG9, hp9⟩⟩
    case inl => simp [Dk.dead] at hx
    have hp9' : d9.pend = [] := hp9 (by simp [Dk.dead])
    have hc9' : d9.pend.length + d9.cnt < 1000000 := by simp only at hc9; omega
    have hn9 : d9.n = ((40 : Nat) : Int) := base9.n.trans k2
    have HI9 := Lib.hid (inR_sub D9 HU8.out)
    have HG9 := Lib.hid hG9
    have HSM9 : Hid (∀ k ∈ R5, w9.heap[k]? = w5.heap[k]?) := Lib.hid (fun k hk => by rw [m9 k (HU8.out k hk) (HLT.out k hk), HSM8.out k hk])
    clear D9 hG9 m9 hc9 hp9 base9
    go_wp2_with fail
    refine (crash_inR _ ks HI9.out hc9' (bools_to HR2.out HI9.out.2.1)).mono ?_
    rintro e w10 ⟨rfl, D10, S10⟩
    rw [crash_calm d9 ks hp9'] at D10
    have HI10 := Lib.hid D10
    have HS10 := Lib.hid S10
    clear D10 S10
    go_wp2_with fail
    refine (open_any 40 h0 h1 (Wr.files LB) HI10.out hn9 (by omega) hp9' HG9.out (by have := HBH.out.a0; have := HBH.out.b0; omega) (by have := HBH.out.a1; have := HBH.out.b1; omega) (hHG.out _ HI10.out.2.1)).mono ?_
    rintro e w11 ⟨su, R11, rfl, T11, _, u11, b11⟩
    rw [hpb] at T11
    have HT11 := Lib.hid T11
    have HSM11 : Hid (∀ k ∈ R5, w11.heap[k]? = w5.heap[k]?) := Lib.hid (fun k hk => by
      rw [b11.block k (HI10.out.2.2.1 k hk).1, HS10.out k hk, HSM9.out k hk])
    clear u11 b11 T11
    go_wp2_with fail
    refine (load_any HT11.out (by omega)).mono ?_
    rintro e w12 ⟨v12, rfl, O12, b12⟩
    have HO12 := Lib.hid O12
    have HB12 := Lib.hid (HT11.out.disk.2.1.trans (b12.mono HT11.out.disk.1))
    have hs12 := HT11.out.disk.1
    have HKB12 := Lib.hid (HKB5.out.to (R' := R5) (sb' := sb) HD5.out.bel.2.1 HB12.out (Nat.le_trans hs12 b12.size) (fun k hk hne => by
      have h11 : k < w11.heap.size := by
        have h5 := (HD5.out.bel.2.2 k hk).1
        have e5 := HSM11.out k hk
        rw [Array.getElem?_eq_getElem h5] at e5
        exact (Array.getElem?_eq_some_iff.1 e5).1
      exact ⟨⟨hk, hne⟩, Nat.lt_of_lt_of_le h11 b12.size, by rw [b12.block k h11, HSM11.out k hk]⟩))
    obtain ⟨vA, vn, vc, rfl⟩ : ∃ A n c, v12 = .slice A n c := by obtain ⟨A, c, h, _⟩ := (O12.rowC ff_length).shape; exact ⟨A, _, c, h⟩
    clear O12 b12
    go_wp2_with fail
    refine (lsame_any (q := true) _ _ LB LB (by simp) w12 (HO12.out.rowC ff_length) HKB12.out.1 (by omega) (by omega)).mono ?_
    rintro e w13 ⟨rfl, nq, h13⟩
    have HB13 := Lib.hid (show Below w.heap.size w w13 by rw [h13]; exact below_drewN' HB12.out nq)
    clear h13
    go_wp2_with fail
    refine (fixed_any w13 (hHG.out _ HB13.out)).mono ?_
    rintro e w14 ⟨rfl, b14⟩
    go_wp2_with fail
    go_ret
    exact ⟨rfl, below_via HB13.out b14⟩
end Go.Proofs.YtkoegbjnhoecoaaGreatDoor
