/- StoreRoom. -/
import Derived.Test.YtkoegbjnhoecoaaGreatDoorStH
namespace Go.Proofs.YtkoegbjnhoecoaaGreatDoor
open Go.RowKit Tx

theorem right_one (T : Bs) (h : T.length ≤ 4000) : Wr.right [([97], T)] = true := by
  refine Wr.Right.right ⟨fun f hf => ?_, by simp, by simp⟩
  simp only [List.mem_singleton] at hf
  subst hf
  unfold Wr.fileOk
  have : Wr.nameOk [97] = true := by decide
  simp [this, h]
theorem bs_grow (T : Bs) (c : UInt8) : bs T ++ bs [c] = bs (T ++ [c]) := bs_append T [c]
set_option maxRecDepth 100000 in
set_option maxHeartbeats 16000000 in
theorem room_law (n : Int) (w : World) (_hn : (Lit.int .i64 n).wf = true) (hg0 : Gl w) :
    Calls Tryz.prog 3 #[.int .i64 n] w fun e w' => e = .returned (.bool true) ∧ Below w.heap.size w w' := by
  have hHG := Lib.hid (gl_from hg0)
  obtain ⟨q, hq⟩ : ∃ q : Nat, bits .and .i64 n 63 = (q : Int) := ⟨(n % 64).toNat, by rw [and63]; omega⟩
  have hql : q ≤ 63 := by have := and63 n; omega
  have x1 : IntKind.i64.wrap (1 + (q : Int)) = ((q + 1 : Nat) : Int) := by rw [IntWalk.i64_in _ (by omega)]; omega
  have HRN := Lib.hid (fun wx => room_any n wx)
  have HRX := Lib.hid (fun wx => rroom_any n wx)
  obtain ⟨zn, hzn⟩ : ∃ zn, zn = roomZ n := ⟨_, rfl⟩
  rw [← hzn] at HRN HRX
  have hzz : (zn != zn) = false := by simp
  obtain ⟨k, hk⟩ : ∃ k, k = q + 1 := ⟨_, rfl⟩
  rw [← hk] at x1
  have hk1 : 1 ≤ k ∧ k ≤ 64 := by omega
  clear hzn hg0 hk hql
  go_enter Tryz.func3, Tryz.ntmps3
  go_wp2_with fail
  refine (HRN.out w).mono ?_
  rintro e w1 ⟨rfl, rfl⟩
  go_wp2_with fail
  refine (HRX.out w).mono ?_
  rintro e w1 ⟨rfl, rfl⟩
  by_cases h4 : k < 4
  · have h4i : (k : Int) < 4 := by omega
    go_wp2_with fail
    refine (on_small (k : Int) (by omega)).mono ?_
    rintro e w1 ⟨bd, F, rfl, b1, _⟩
    have HB1 := Lib.hid b1
    clear b1
    go_wp2_with fail
    refine (fixed_any w1 (hHG.out _ HB1.out)).mono ?_
    rintro e w2 ⟨rfl, b2⟩
    go_wp2_with fail
    go_ret
    exact ⟨rfl, below_via HB1.out b2⟩
  · have h4i : ¬ (k : Int) < 4 := by omega
    have hrz := roomZ_eq k (by omega)
    have hhl : 1 ≤ Sq.half k ∧ Sq.half k ≤ 31 := by unfold Sq.half; omega
    have HRK := Lib.hid (fun wx => rroom_any (k : Int) wx)
    rw [hrz] at HRK
    obtain ⟨m, hm⟩ : ∃ m, m = 64 * Sq.half k := ⟨_, rfl⟩
    rw [← hm] at HRK hrz
    have hml : 64 ≤ m ∧ m ≤ 1984 := by omega
    have x2 : IntKind.i64.wrap ((m : Int) - 10) = ((m - 10 : Nat) : Int) := by rw [IntWalk.i64_in _ (by omega)]; omega
    obtain ⟨p, hp⟩ : ∃ p, p = m - 10 := ⟨_, rfl⟩
    rw [← hp] at x2
    have hpl : p ≤ 1974 := by omega
    have HM := Lib.hid hm
    have HRZ := Lib.hid hrz
    clear hp hm hrz
    go_wp2_with fail
    refine (on_calm (n := k) (by omega) (Nat.le_refl _) (Below.refl _ _) hHG.out).mono ?_
    rintro e w1 ⟨sb, bd, R, rfl, S1, b1, _⟩
    have HS1 := Lib.hid S1
    clear S1 b1
    go_upto_block 0 with fail
    go_cut [6] (fun tv wx => ∃ T : Bs, T.length = p ∧ tv = vs T ∧ wx = w1)
    case first =>
      go_wp2_with fail
      go_loopw [6, 7] (fun tv i wr => ∃ (j : Nat) (T : Bs), j ≤ p ∧ T.length = j ∧ tv = vs T ∧ i = .int .i64 j ∧ wr = w1) (fun _ i _ => p - (RowKit.intOf i).toNat)
      case atStart => exact ⟨0, [], Nat.zero_le _, rfl, rfl, rfl, rfl⟩
      case round =>
        obtain ⟨j, T, hj, hT, rfl, rfl, rfl⟩ := hrel
        have x3 : IntKind.i64.wrap ((j : Int) + 1) = ((j + 1 : Nat) : Int) := by rw [IntWalk.i64_in _ (by omega)]; simp
        have o1 : bs T ++ bs [120] = bs (T ++ [120]) := bs_grow T 120
        have o2 : ¬ (9223372036854775807 < (bs T).size + (bs [120]).size) := by rw [bs_size, bs_size]; simp; omega
        have hTT : (T ++ [120]).length = j + 1 := by simp [hT]
        have HT := Lib.hid hT
        generalize T ++ [120] = T2 at *
        clear hT
        by_cases hlt : j < p
        · have hi : (j : Int) < (p : Int) := by omega
          have hi2 : (j : Int) < 3000 := by omega
          go_wp2_with fail
          refine (HRK.out wr).mono ?_
          rintro e w2 ⟨rfl, rfl⟩
          go_wp2_with fail
          go_roundw
          case rel => exact ⟨j + 1, T2, by omega, hTT, congrArg Value.string o1, by go_num, by first | trivial | rfl⟩
          case measure => simp [RowKit.intOf]; omega
        · have hi : ¬ (j : Int) < (p : Int) := by omega
          go_wp2_with fail
          refine (HRK.out wr).mono ?_
          rintro e w2 ⟨rfl, rfl⟩
          go_wp2_with fail
          go_meet
          exact ⟨T, by rw [HT.out]; omega, rfl, by first | trivial | rfl⟩
    case rest =>
      obtain ⟨T0, hT0, rfl, hwc⟩ := hcut
      have HS2 : Hid (Calm w.heap.size w wc bd k sb 0 0 [] R) := Lib.hid (by rw [hwc]; exact HS1.out)
      obtain ⟨w2, hw2⟩ : ∃ w2, w2 = wc := ⟨_, rfl⟩
      subst hw2
      clear hwc HS1
      go_wp2_with fail
      go_loopw [6, 8] (fun tv i wr => ∃ (j : Nat) (T : Bs) (R : List Nat) (La : List Wr.F), j ≤ 10 ∧ T.length = p + j ∧ tv = vs T ∧ i = .int .i64 j ∧ Calm w.heap.size w wr bd k sb j (40 * j) La R ∧ Wr.right La = true) (fun _ i _ => 10 - (RowKit.intOf i).toNat)
      case atStart => exact ⟨0, T0, R, [], by omega, by omega, rfl, rfl, HS2.out, by decide⟩
      case round =>
        clear HS2 hT0
        obtain ⟨j, T, R, La, hj, hT, rfl, rfl, hcal, hright⟩ := hrel
        have HCAL := Lib.hid hcal
        have HRT := Lib.hid hright
        clear hcal hright
        by_cases hlt : j < 10
        · have hi : (j : Int) < 10 := by omega
          have hz := bs_size T
          have hTi : (T.length : Int) < 3990 := by omega
          have x3 : IntKind.i64.wrap ((j : Int) + 1) = ((j + 1 : Nat) : Int) := by rw [IntWalk.i64_in _ (by omega)]; simp
          have o1 : bs T ++ bs [121] = bs (T ++ [121]) := bs_grow T 121
          have o2 : ¬ (9223372036854775807 < (bs T).size + (bs [121]).size) := by rw [bs_size, bs_size]; simp; omega
          have hTT : (T ++ [121]).length = p + (j + 1) := by simp; omega
          have HTT := Lib.hid hTT
          have hra := right_one T (by omega)
          have HRA := Lib.hid hra
          have hfl := files_len [([97], T)] hra
          have hcm : Sq.cnt (Wr.files [([97], T)]) ≤ 35 := by
            have := small_files [([97], T)] 1 1990 (by omega) hra ⟨by simp, by simp; omega⟩
            unfold Sq.cnt
            omega
          have hok1 : ∀ f ∈ [([97], T)], FOk f := FOk_one _ ⟨by simp, by simp only; omega⟩
          have HOK := Lib.hid hok1
          generalize T ++ [121] = T2 at *
          clear hra hok1 hTT
          have hsbw := HCAL.out.mem.2
          have HCA := Lib.hid (HCAL.out.more ((Below.refl _ _).alloc (Nat.le_refl _) (.cells #[.string (bs [97]), .string (bs T)] 29)) [wr.heap.size] (fun k hk => by simp only [List.mem_singleton] at hk; subst hk; simp))
          have HKA := Lib.hid (rowK_one (B := w.heap.size) ([97], T) R sb hsbw)
          go_upto_region 18 with fail
          rw [show (⟨#[97]⟩ : ByteArray) = bs [97] from rfl]
          by_cases hfit : (Wr.files [([97], T)]).length ≤ 64 * Sq.half k
          · have hmay : mayZ [([97], T)] (k : Int) = 0 := by
              unfold mayZ
              rw [HRA.out, if_neg (by simp), HRZ.out, if_neg (by rw [HM.out]; omega)]
            have HFIT := Lib.hid hfit
            clear hfit
            go_wp2_with fail
            refine (commit_calm HCA.out (by omega) (by omega) (by omega) _ [([97], T)] HKA.out HRA.out HFIT.out hHG.out).mono ?_
            rintro e w3 ⟨rfl, R3, S3, u3, m3⟩
            have HC3 := Lib.hid S3
            have HK3 := Lib.hid (HKA.out.to (R' := R3) (sb' := sb) HCA.out.disk.bel.2.1 S3.disk.bel.2.1 S3.disk.bel.1 (fun k hk hne => ⟨⟨u3 k hk, hne⟩, (S3.disk.bel.2.2 k (u3 k hk)).1, m3 k hk hne⟩))
            have hmy := may_any _ [([97], T)] (k : Int) w3 HK3.out.1 HOK.out
            rw [hmay] at hmy
            have HMY := Lib.hid hmy
            clear S3 u3 m3 hmy hmay
            go_wp2_with fail
            refine HMY.out.mono ?_
            rintro e w4 ⟨rfl, b4⟩
            have HC4 := Lib.hid (HC3.out.below b4)
            have HK4 := Lib.hid (HK3.out.to (R' := R3) (sb' := sb) HC3.out.disk.bel.2.1 HC4.out.disk.bel.2.1 HC4.out.disk.bel.1 (fun k hk hne => ⟨⟨hk, hne⟩, (HC4.out.disk.bel.2.2 k hk).1, b4.block k (HC3.out.disk.bel.2.2 k hk).1⟩))
            clear b4
            go_wp2_with fail
            refine (load_calm HC4.out (by simp)).mono ?_
            rintro e w5 ⟨v5, rfl, O5, b5⟩
            have HO5 := Lib.hid O5
            have HC5 := Lib.hid (HC4.out.below b5)
            have HK5 := Lib.hid (HK4.out.to (R' := R3) (sb' := sb) HC4.out.disk.bel.2.1 HC5.out.disk.bel.2.1 HC5.out.disk.bel.1 (fun k hk hne => ⟨⟨hk, hne⟩, (HC5.out.disk.bel.2.2 k hk).1, b5.block k (HC4.out.disk.bel.2.2 k hk).1⟩))
            obtain ⟨xA, xn, xc, rfl⟩ : ∃ A n c, v5 = .slice A n c := by obtain ⟨A, c, h, _⟩ := (O5.rowC ff_length).shape; exact ⟨A, _, c, h⟩
            clear O5 b5
            go_wp2_with fail
            refine (lsame_any (q := true) _ _ [([97], T)] [([97], T)] (by simp) w5 (HO5.out.rowC ff_length) HK5.out.1 (by simp) (by simp)).mono ?_
            rintro e w6 ⟨rfl, nq, h6⟩
            have HC6 := Lib.hid (show Calm w.heap.size w w6 bd k sb (j + 1) (40 * j + Sq.cnt (Wr.files [([97], T)]) + 1) [([97], T)] R3 by rw [h6]; exact HC5.out.below (below_of_drewN (a := w5) (B := w5.heap.size) nq))
            clear h6
            go_wp2_with fail
            go_roundw
            case rel => exact ⟨j + 1, T2, R3, [([97], T)], by omega, HTT.out, congrArg Value.string o1, by go_num, by
              obtain ⟨d, a0, a1, t1, t2, t3, t4, t5, t6, t7⟩ := HC6.out
              exact ⟨d, a0, a1, t1, t2, t3, t4, t5, t6, by omega⟩, HRA.out⟩
            case measure => simp [RowKit.intOf]; omega
          · have hmay : mayZ [([97], T)] (k : Int) = 7 := by
              unfold mayZ
              rw [HRA.out, if_neg (by simp), HRZ.out, if_pos (by rw [HM.out]; omega)]
            have HFIT := Lib.hid hfit
            clear hfit
            obtain ⟨d, a0, a1, t1, t2, t3, t4, t5, t6, t7⟩ := HCA.out
            have HT1 := Lib.hid t1
            clear t1 t3 t4 t5 t6 t7
            go_wp2_with fail
            refine (commit_full k _ [([97], T)] HT1.out HKA.out.1 t2 (by omega) HRA.out (by have := HFIT.out; omega) HOK.out hHG.out).mono ?_
            rintro e w3 ⟨rfl, b3⟩
            have HC3 := Lib.hid (HCA.out.below b3)
            have HR3 := Lib.hid (HKA.out.1.step b3)
            have hmy := may_any _ [([97], T)] (k : Int) w3 HR3.out HOK.out
            rw [hmay] at hmy
            have HMY := Lib.hid hmy
            clear b3 hmy hmay
            go_wp2_with fail
            refine HMY.out.mono ?_
            rintro e w4 ⟨rfl, b4⟩
            have HC4 := Lib.hid (HC3.out.below b4)
            clear b4
            go_wp2_with fail
            go_roundw
            case rel => exact ⟨j + 1, T2, _, La, by omega, HTT.out, congrArg Value.string o1, by go_num, by
              obtain ⟨d, a0, a1, t1, t2, t3, t4, t5, t6, t7⟩ := HC4.out
              exact ⟨d, a0, a1, t1, t2, t3, t4, t5, ⟨by have := t6.a0; omega, by have := t6.a1; omega, t6.b0, t6.b1⟩, by omega⟩, HRT.out⟩
            case measure => simp [RowKit.intOf]; omega
        · obtain rfl : j = 10 := by omega
          have HBW := Lib.hid HCAL.out.disk.bel.2.1
          go_wp2_with fail
          refine (fixed_any wr (hHG.out _ HBW.out)).mono ?_
          rintro e w4 ⟨rfl, b4⟩
          go_wp2_with fail
          go_ret
          exact ⟨rfl, below_via HBW.out b4⟩
end Go.Proofs.YtkoegbjnhoecoaaGreatDoor
