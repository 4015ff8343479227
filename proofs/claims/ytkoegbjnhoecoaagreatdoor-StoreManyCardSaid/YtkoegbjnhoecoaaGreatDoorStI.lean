/- StoreMany. -/
import Derived.Test.YtkoegbjnhoecoaaGreatDoorStH
namespace Go.Proofs.YtkoegbjnhoecoaaGreatDoor
open Go.RowKit Tx

set_option maxRecDepth 100000 in
set_option maxHeartbeats 16000000 in
theorem many_any (v0 : Value) (l : List (List Wr.F)) (n : Int) (w : World) (hr0 : RowF w w.heap.size v0 l) (ok0 : ∀ x ∈ l, ∀ f ∈ x, FOk f) (_hn : (Lit.int .i64 n).wf = true) (hg0 : Gl w) :
    Calls Tryz.prog 6 #[v0, .int .i64 n] w fun e w' => e = .returned (.bool true) ∧ Below w.heap.size w w' := by
  have hHG := Lib.hid (gl_from hg0)
  have HOK := Lib.hid ok0
  obtain ⟨rs, R0, hrl, hin⟩ := hr0
  obtain ⟨A0, c0, rfl, z1, z2, z3⟩ := R0.shape
  rw [hrl] at z1
  have HC := Lib.hid z3
  have HIN := Lib.hid hin
  have HRL := Lib.hid hrl
  have hha : Sq.half 40 = 19 := by decide
  have hvlen : (Value.slice A0 rs.length c0) = Value.slice A0 l.length c0 := by rw [hrl]
  rw [hvlen]
  clear R0 z3 hin ok0 hg0 hvlen hrl
  go_enter Tryz.func6, Tryz.ntmps6
  go_wp2_with fail
  refine (on_calm (n := 40) (by omega) (Nat.le_refl _) (Below.refl _ _) hHG.out).mono ?_
  rintro e w1 ⟨sb, bd, R, rfl, S1, b1, _⟩
  have HS1 := Lib.hid (S1.more ((Below.refl _ _).alloc (Nat.le_refl _) (.cells #[] 29)) [w1.heap.size] (fun k hk => by simp only [List.mem_singleton] at hk; subst hk; simp))
  have HB1 := Lib.hid b1
  have hsb1 : sb < w1.heap.size := S1.mem.2
  have HK1 : Hid (RowK w.heap.size ([w1.heap.size] ++ R) sb (w1.alloc (.cells #[] 29)) (.slice (some ⟨w1.heap.size, 0, none⟩) 0 0) []) := Lib.hid ⟨⟨0, by simp, by decide, .inl ⟨rfl, _, rfl⟩⟩, .inr ⟨_, _, _, rfl⟩, fun k hk => by
    have : k = w1.heap.size := by simpa [Value.ownBlock] using hk.symm
    subst this
    exact .inr ⟨by simp, by omega⟩⟩
  clear S1 b1
  go_upto_block 0 with fail
  go_cut [5, 7] (fun sv lv wx => ∃ (sb G C : Nat) (R : List Nat) (La : List Wr.F), sv = .pointer (some ⟨sb, 0, none⟩) ∧ G ≤ 20 ∧ C ≤ 1000 ∧ Calm w.heap.size w wx bd 40 sb G C La R ∧ RowK w.heap.size R sb wx lv La ∧ Wr.right La = true)
  case first =>
    go_wp2_with fail
    go_loopw [5, 7, 8] (fun sv lv i wr => ∃ (k sb : Nat) (R : List Nat) (La : List Wr.F), k ≤ 10 ∧ k ≤ l.length ∧ i = .int .i64 k ∧ sv = .pointer (some ⟨sb, 0, none⟩) ∧ Calm w.heap.size w wr bd 40 sb k (30 * k) La R ∧ RowK w.heap.size R sb wr lv La ∧ Wr.right La = true) (fun _ _ i _ => 10 - (RowKit.intOf i).toNat)
    case atStart => exact ⟨0, sb, _, [], by omega, Nat.zero_le _, rfl, rfl, HS1.out, HK1.out, by decide⟩
    case round =>
      clear hsb1
      obtain ⟨k, sb, R, La, hk, hkl, rfl, rfl, hcal, hrow, hright⟩ := hrel
      have HCAL := Lib.hid hcal
      have HROW := Lib.hid hrow
      have HRT := Lib.hid hright
      obtain ⟨lA, lc, rfl, _⟩ := hrow.1.shape
      clear hcal hrow hright
      by_cases hlt : k < l.length
      · have hi : (k : Int) < (l.length : Int) := by omega
        have hi0 : (0 : Int) ≤ (k : Int) := by omega
        by_cases h10 : k < 10
        · have hi10 : (k : Int) < 10 := by omega
          obtain ⟨b, off, rfl, hbl, hc⟩ := HC.out (by rintro rfl; have := HRL.out; simp at this; omega)
          have hkr : k < rs.length := by rw [HRL.out]; exact hlt
          have e1 := hc k hkr 0 rs[k] rfl
          simp only [Nat.mul_one, Nat.add_zero] at e1
          have hbelw := HCAL.out.disk.bel.2.1
          have e2 := (hbelw.cell (p := ⟨b, off + k, none⟩) hbl).trans e1
          have hrk := HIN.out k hkr hlt
          have hokk := HOK.out _ (List.getElem_mem hlt)
          obtain ⟨hra, hla, hoka⟩ := map40 l[k]
          have HM := Lib.hid (mapF_own _ _ 6 40 wr ((hrk.below hbelw (Nat.le_refl _)).more hbelw.size) hokk (by omega) (by omega))
          generalize rs[k] = rk at *
          obtain ⟨ka, kc, hrkv, _⟩ := hrk.shape
          generalize l[k] = lk at *
          generalize hMl : Wr.mapF lk 6 40 = M at *
          have hcm : Sq.cnt (Wr.files M) ≤ 20 := by unfold Sq.cnt; omega
          have hml : M.length ≤ 32 := FOk_right hra
          have HRA := Lib.hid hra
          subst hrkv
          clear hc e1 hrk hokk hra hoka hbelw hMl
          go_wp2_with fail
          refine HM.out.mono ?_
          rintro e w2 ⟨vm, rfl, O2, b2⟩
          have hsbw := HCAL.out.mem.2
          have HC2 := Lib.hid (HCAL.out.more b2 vm.ownBlock.toList (fun k hk => O2.lt k (by simpa using hk)))
          have HK2 := Lib.hid (rowK_own (B := w.heap.size) (R := vm.ownBlock.toList ++ R) (sb := sb) O2 (Below.refl _ _) (fun k hk => by simp [hk]) hsbw)
          obtain ⟨mA, mn, mc, rfl⟩ : ∃ A n c, vm = .slice A n c := by obtain ⟨A, c, h, _⟩ := (O2.rowC ff_length).shape; exact ⟨A, _, c, h⟩
          clear O2 b2
          go_wp2_with fail
          refine (commit_calm HC2.out (by omega) (by omega) (by omega) _ M HK2.out HRA.out (by omega) hHG.out).mono ?_
          rintro e w3 ⟨rfl, R3, S3, u3, m3⟩
          have HC3 := Lib.hid S3
          have HK3 := Lib.hid (HK2.out.to (R' := R3) (sb' := sb) HC2.out.disk.bel.2.1 S3.disk.bel.2.1 S3.disk.bel.1 (fun k hk hne => ⟨⟨u3 k hk, hne⟩, (S3.disk.bel.2.2 k (u3 k hk)).1, m3 k hk hne⟩))
          clear S3 u3 m3
          go_wp2_with fail
          refine (load_calm HC3.out (by omega)).mono ?_
          rintro e w4 ⟨v4, rfl, O4, b4⟩
          have HO4 := Lib.hid O4
          have HC4 := Lib.hid (HC3.out.below b4)
          have HK4 := Lib.hid (HK3.out.to (R' := R3) (sb' := sb) HC3.out.disk.bel.2.1 HC4.out.disk.bel.2.1 HC4.out.disk.bel.1 (fun k hk hne => ⟨⟨hk, hne⟩, (HC4.out.disk.bel.2.2 k hk).1, b4.block k (HC3.out.disk.bel.2.2 k hk).1⟩))
          obtain ⟨xA, xn, xc, rfl⟩ : ∃ A n c, v4 = .slice A n c := by obtain ⟨A, c, h, _⟩ := (O4.rowC ff_length).shape; exact ⟨A, _, c, h⟩
          clear O4 b4
          go_wp2_with fail
          refine (lsame_any (q := true) _ _ M M (by simp) w4 (HO4.out.rowC ff_length) HK4.out.1 (by omega) (by omega)).mono ?_
          rintro e w5 ⟨rfl, nq, h5⟩
          have b5 : Below w4.heap.size w4 w5 := by rw [h5]; exact below_of_drewN (a := w4) (B := w4.heap.size) nq
          have HC5 := Lib.hid (HC4.out.below b5)
          have HK5 := Lib.hid (HK4.out.to (R' := R3) (sb' := sb) HC4.out.disk.bel.2.1 HC5.out.disk.bel.2.1 HC5.out.disk.bel.1 (fun k hk hne => ⟨⟨hk, hne⟩, (HC5.out.disk.bel.2.2 k hk).1, b5.block k (HC4.out.disk.bel.2.2 k hk).1⟩))
          clear h5 b5
          go_wp2_with fail
          refine (open_calm HC5.out.disk (by omega) (by omega) HRA.out hHG.out).mono ?_
          rintro e w6 ⟨st, R6, rfl, T6, hst, u6, b6⟩
          have HC6 := Lib.hid T6
          have HK6 := Lib.hid (HK5.out.to (R' := R6) (sb' := st) HC5.out.disk.bel.2.1 T6.disk.bel.2.1 T6.disk.bel.1 (fun k hk hne => ⟨⟨u6 k hk, fun e => by have := (HC5.out.disk.bel.2.2 k hk).1; omega⟩, (T6.disk.bel.2.2 k (u6 k hk)).1, b6.block k (HC5.out.disk.bel.2.2 k hk).1⟩))
          clear T6 hst u6 b6
          go_wp2_with fail
          refine (load_calm HC6.out (by omega)).mono ?_
          rintro e w7 ⟨v7, rfl, O7, b7⟩
          have HO7 := Lib.hid O7
          have HC7 := Lib.hid (HC6.out.below b7)
          have HK7 := Lib.hid (HK6.out.to (R' := R6) (sb' := st) HC6.out.disk.bel.2.1 HC7.out.disk.bel.2.1 HC7.out.disk.bel.1 (fun k hk hne => ⟨⟨hk, hne⟩, (HC7.out.disk.bel.2.2 k hk).1, b7.block k (HC6.out.disk.bel.2.2 k hk).1⟩))
          obtain ⟨yA, yn, yc, rfl⟩ : ∃ A n c, v7 = .slice A n c := by obtain ⟨A, c, h, _⟩ := (O7.rowC ff_length).shape; exact ⟨A, _, c, h⟩
          clear O7 b7
          go_wp2_with fail
          refine (lsame_any (q := true) _ _ M M (by simp) w7 (HO7.out.rowC ff_length) HK7.out.1 (by omega) (by omega)).mono ?_
          rintro e w8 ⟨rfl, nq, h8⟩
          have b8 : Below w7.heap.size w7 w8 := by rw [h8]; exact below_of_drewN (a := w7) (B := w7.heap.size) nq
          have HC8 := Lib.hid (HC7.out.below b8)
          have HK8 := Lib.hid (HK7.out.to (R' := R6) (sb' := st) HC7.out.disk.bel.2.1 HC8.out.disk.bel.2.1 HC8.out.disk.bel.1 (fun k hk hne => ⟨⟨hk, hne⟩, (HC8.out.disk.bel.2.2 k hk).1, b8.block k (HC7.out.disk.bel.2.2 k hk).1⟩))
          clear h8 b8
          go_wp2_with fail
          go_roundw
          case rel => exact ⟨k + 1, st, R6, M, by omega, by omega, by go_num, rfl, by
            obtain ⟨d, a0, a1, t1, t2, t3, t4, t5, t6, t7⟩ := HC8.out
            exact ⟨d, a0, a1, t1, t2, t3, t4, t5, t6, by omega⟩, HK8.out, HRA.out⟩
          case measure => simp [RowKit.intOf]; omega
        · obtain rfl : k = 10 := by omega
          go_wp2_with fail
          go_meet
          exact ⟨sb, 10, 300, R, La, rfl, by omega, by omega, HCAL.out, HROW.out, HRT.out⟩
      · have hi : ¬ (k : Int) < (l.length : Int) := by omega
        have HKL := Lib.hid hkl
        go_wp2_with fail
        go_meet
        exact ⟨sb, k, 30 * k, R, La, rfl, by omega, by omega, HCAL.out, HROW.out, HRT.out⟩
  case rest =>
    obtain ⟨sb2, G, C, R2, La, rfl, hG, hC, hcal, hrow, hright⟩ := hcut
    obtain ⟨w2, hw2⟩ : ∃ w2, w2 = wc := ⟨_, rfl⟩
    subst hw2
    have HD2 := Lib.hid hcal.disk
    have HK2 := Lib.hid hrow
    have HRT := Lib.hid hright
    have hll : La.length ≤ 32 := FOk_right hright
    obtain ⟨lA, lc, rfl, _⟩ := hrow.1.shape
    clear hcal hrow hright hsb1
    go_wp2_with fail
    refine (crash_calmD HD2.out (by omega) _ [] ⟨0, by simp, by decide, .inl ⟨rfl, none, rfl⟩⟩).mono ?_
    rintro e w3 ⟨rfl, D3, S3⟩
    have HD3 := Lib.hid D3
    have HK3 := Lib.hid (HK2.out.to (R' := R2) (sb' := sb2) HD2.out.bel.2.1 D3.bel.2.1 D3.bel.1 (fun k hk hne => ⟨⟨hk, hne⟩, (D3.bel.2.2 k hk).1, S3 k hk⟩))
    clear D3 S3
    go_wp2_with fail
    refine (open_calm HD3.out (by omega) (by omega) HRT.out hHG.out).mono ?_
    rintro e w4 ⟨st, R4, rfl, T4, hst, u4, b4⟩
    have HC4 := Lib.hid T4
    have HK4 := Lib.hid (HK3.out.to (R' := R4) (sb' := st) HD3.out.bel.2.1 T4.disk.bel.2.1 T4.disk.bel.1 (fun k hk hne => ⟨⟨u4 k hk, fun e => by have := (HD3.out.bel.2.2 k hk).1; omega⟩, (T4.disk.bel.2.2 k (u4 k hk)).1, b4.block k (HD3.out.bel.2.2 k hk).1⟩))
    clear T4 hst u4 b4
    go_wp2_with fail
    refine (load_calm HC4.out (by omega)).mono ?_
    rintro e w5 ⟨v5, rfl, O5, b5⟩
    have HO5 := Lib.hid O5
    have HC5 := Lib.hid (HC4.out.below b5)
    have HK5 := Lib.hid (HK4.out.to (R' := R4) (sb' := st) HC4.out.disk.bel.2.1 HC5.out.disk.bel.2.1 HC5.out.disk.bel.1 (fun k hk hne => ⟨⟨hk, hne⟩, (HC5.out.disk.bel.2.2 k hk).1, b5.block k (HC4.out.disk.bel.2.2 k hk).1⟩))
    obtain ⟨xA, xn, xc, rfl⟩ : ∃ A n c, v5 = .slice A n c := by obtain ⟨A, c, h, _⟩ := (O5.rowC ff_length).shape; exact ⟨A, _, c, h⟩
    clear O5 b5
    go_wp2_with fail
    refine (lsame_any (q := true) _ _ La La (by simp) w5 (HO5.out.rowC ff_length) HK5.out.1 (by omega) (by omega)).mono ?_
    rintro e w6 ⟨rfl, nq, h6⟩
    have HB6 := Lib.hid (show Below w.heap.size w w6 by rw [h6]; exact below_drewN' HC5.out.disk.bel.2.1 nq)
    clear h6
    obtain ⟨q, hq⟩ : ∃ q : Nat, bits .and .i64 n 65535 = (q : Int) := ⟨(n % 65536).toNat, by rw [and65535]; omega⟩
    have hql : q ≤ 65535 := by have := and65535 n; omega
    have r1 := Lib.hid (roomZ_step q)
    have x1 : IntKind.i64.wrap ((q : Int) + 1) = ((q + 1 : Nat) : Int) := by rw [IntWalk.i64_in _ (by omega)]; simp
    have x2 : IntKind.i64.wrap ((q : Int) + 2) = ((q + 2 : Nat) : Int) := by rw [IntWalk.i64_in _ (by omega)]; simp
    have HRM := Lib.hid (fun z => room_any z w6)
    have HRR := Lib.hid (fun z => rroom_any z w6)
    obtain ⟨q1, hq1⟩ : ∃ q1, q1 = q + 1 := ⟨_, rfl⟩
    obtain ⟨q2, hq2⟩ : ∃ q2, q2 = q + 2 := ⟨_, rfl⟩
    rw [← hq1] at x1 r1
    rw [← hq2] at x2 r1
    have hrl : ∀ k : Nat, roomZ (k : Int) ≤ 131008 ∧ 0 ≤ roomZ (k : Int) := fun k => by
      unfold roomZ Sq.half
      split <;> omega
    obtain ⟨z0, hz0⟩ : ∃ z, z = roomZ (q : Int) := ⟨_, rfl⟩
    obtain ⟨z1, hz1⟩ : ∃ z, z = roomZ (q1 : Int) := ⟨_, rfl⟩
    obtain ⟨z2, hz2⟩ : ∃ z, z = roomZ (q2 : Int) := ⟨_, rfl⟩
    have l0 := hrl q
    have l1 := hrl q1
    have l2 := hrl q2
    have HR0 := Lib.hid (HRM.out (q : Int))
    have HR1 := Lib.hid (HRM.out (q1 : Int))
    have HR2 := Lib.hid (HRM.out (q2 : Int))
    have HRX := Lib.hid (HRR.out (q : Int))
    rw [← hz0] at r1 l0 HR0 HRX
    rw [← hz1] at r1 l1 HR1
    rw [← hz2] at r1 l2 HR2
    have t1 : z0 ≤ z1 := r1.out.1
    have t2 : z2 ≤ z0 + 64 := r1.out.2
    have x3 : IntKind.i64.wrap (z0 + 64) = z0 + 64 := IntWalk.i64_in _ (by omega)
    rw [hq]
    clear hq1 hq2 hz0 hz1 hz2 hrl r1 HRM HRR hq
    go_wp2_with fail
    refine HR0.out.mono ?_
    rintro e w7 ⟨rfl, rfl⟩
    go_wp2_with fail
    refine HR1.out.mono ?_
    rintro e w7 ⟨rfl, rfl⟩
    go_wp2_with fail
    refine HR2.out.mono ?_
    rintro e w7 ⟨rfl, rfl⟩
    go_wp2_with fail
    refine HR0.out.mono ?_
    rintro e w7 ⟨rfl, rfl⟩
    go_wp2_with fail
    refine HR0.out.mono ?_
    rintro e w7 ⟨rfl, rfl⟩
    go_wp2_with fail
    refine HRX.out.mono ?_
    rintro e w7 ⟨rfl, rfl⟩
    go_wp2_with fail
    refine (fixed_any w6 (hHG.out _ HB6.out)).mono ?_
    rintro e w8 ⟨rfl, b8⟩
    go_wp2_with fail
    go_ret
    exact ⟨rfl, below_via HB6.out b8⟩
end Go.Proofs.YtkoegbjnhoecoaaGreatDoor
