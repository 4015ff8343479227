/- stetlaw11.NumberMany. -/
import Derived.Test.YtjmmfihmamcopaaGreatDoorRnL
namespace Go.Proofs.YtjmmfihmamcopaaGreatDoor
open Go.RowKit Tx Nb

theorem itInfo0 : (Tryz.prog.info? 59).map (fun i => (i.zero, i.size, i.bytes)) = some (some (.agg #[.int .i64 0, .string ⟨#[]⟩]), 2, 24) := by kernel_rfl
theorem two_bytes (w : World) (g : Nat) (hg : g = w.heap.size) (z y : Int) (c d : UInt8) (hz : z = (c.toNat : Int)) (hy : y = (d.toNat : Int)) : (convert 57 9 (.slice (some ⟨g, 0, none⟩) 2 2)).run Tryz.prog (w.alloc (.cells #[.int .u8 z, .int .u8 y] 5)) = .ok (.string (bs [c, d])) (w.alloc (.cells #[.int .u8 z, .int .u8 y] 5)) := by
  subst hz hy hg
  exact run_convert_bytes_back (P := Tryz.prog) _ 57 9 5 ⟨w.heap.size, 0, none⟩ 2 [c, d] Tryz.underlying57 Tryz.underlying5 Tryz.underlying9 (fun j hj => by
    rw [Addr.add_lit, cell_of_row _ w.heap.size _ _ 5 (0, 0) (heap_alloc_new w _)]
    match j, hj with
    | 0, _ => rfl
    | 1, _ => rfl)
namespace Nb
def two (j : Nat) : Bs := [UInt8.ofNat (97 + j / 15), UInt8.ofNat (97 + j % 15)]
/-- Many items of one kind. -/
def manyL (kd : Int) (t : Bs) : Nat → List It
  | 0 => []
  | j + 1 => manyL kd t j ++ (⟨kd, t ++ two j⟩ :: if j % 3 = 0 then [⟨6, [105, 110, 32] ++ t ++ two j⟩] else [])
theorem manyL_len (kd : Int) (t : Bs) : ∀ j, (manyL kd t j).length ≤ 2 * j
  | 0 => by simp [manyL]
  | j + 1 => by
    have := manyL_len kd t j
    unfold manyL
    split <;> simp <;> omega
theorem manyL_txt (kd : Int) (t : Bs) : ∀ j, ∀ x ∈ manyL kd t j, x.s.length ≤ t.length + 5
  | 0, x, h => by simp [manyL] at h
  | j + 1, x, h => by
    unfold manyL at h
    rcases List.mem_append.1 h with h | h
    · exact manyL_txt kd t j x h
    · rcases List.mem_cons.1 h with rfl | h
      · simp [two]
      · split at h
        · simp only [List.mem_singleton] at h
          subst h
          simp [two]
        · simp at h
end Nb
theorem ext20 (s : Bs) : (bs s).extract 0 (min ((bs s).size : Int) 20).toNat = bs (s.take 20) := by
  rw [bs_extract', bs_size]
  simp only [List.drop_zero]
  congr 1
  by_cases h : s.length ≤ 20
  · rw [show (min (s.length : Int) 20).toNat = s.length by omega, List.take_length, List.take_of_length_le h]
  · rw [show (min (s.length : Int) 20).toNat = 20 by omega]
theorem many_byte (n : Nat) (h : n < 16) : (((UInt8.ofNat (97 + n)).toNat : Nat) : Int) = 97 + (n : Int) := by
  rw [ofNat_int _ (by omega)]
  omega
set_option maxRecDepth 100000 in
set_option maxHeartbeats 32000000 in
theorem many_any {w : World} (kd : Int) (n : Int) (hn : 0 ≤ n ∧ n < 256) (t0 : Bs) (ht0 : t0.length ≤ maxLen) (hg : Gl w) :
    Calls Tryz.prog 4 #[.int .i64 kd, .int .u8 n, vs t0] w fun e w' => e = .returned (.bool true) ∧ Below w.heap.size w w' := by
  have HG := Lib.hid hg
  have hlm : t0.length ≤ 9223372036854775807 := by simpa [maxLen] using ht0
  have hx20 := ext20 t0
  have hz0 : (bs t0).size = t0.length := bs_size t0
  obtain ⟨t, ht⟩ : ∃ t, t = t0.take 20 := ⟨_, rfl⟩
  rw [← ht, hz0] at hx20
  have htl : t.length ≤ 20 := by rw [ht]; simp; omega
  obtain ⟨m, hm⟩ : ∃ m : Nat, min n 230 = (m : Int) := ⟨(min n 230).toNat, by omega⟩
  have hm2 : m ≤ 230 := by omega
  have htz : (bs t).size = t.length := bs_size t
  obtain ⟨i0, hi0', hz0', hz1, hz2⟩ := info_parts itInfo0
  obtain ⟨TI, hTI⟩ : ∃ T, T = [105, 110, 32] ++ t := ⟨_, rfl⟩
  have HTI := Lib.hid hTI
  have oin : (⟨#[105, 110, 32]⟩ : ByteArray) ++ bs t = bs TI := by show bs [105, 110, 32] ++ _ = _; rw [bs_append, hTI]
  have lin : (bs TI).size = t.length + 3 := by rw [bs_size, hTI]; simp
  have gin : ¬ (9223372036854775807 < 3 + t.length) := by omega
  clear hg ht0 ht hTI
  go_enter Tryz.func4, Tryz.ntmps4
  go_wp2_with fail
  go_loopw [7, 8] (fun v i wr => ∃ j : Nat, j ≤ m ∧ i = .int .i64 j ∧ OwnC 59 2 itF w.heap.size wr v (manyL kd t j) ∧ Below w.heap.size w wr) (fun _ i _ => m - (RowKit.intOf i).toNat)
  case atStart =>
    refine ⟨0, Nat.zero_le _, rfl, ?_, (Below.refl _ _).alloc (Nat.le_refl _) _⟩
    exact OwnC.made _ _ _ _ _ (Nat.le_refl _)
  case round =>
    obtain ⟨j, hj, rfl, ho, hbel⟩ := hrel
    have hl2 := manyL_len kd t j
    by_cases hjt : j < m
    · have hi : (j : Int) < (m : Int) := by omega
      have hq : j / 15 < 16 := by omega
      have hr : j % 15 < 16 := by omega
      have hdv : Int.tdiv (j : Int) 15 = ((j / 15 : Nat) : Int) := by rw [Int.tdiv_eq_ediv_of_nonneg (by omega)]; omega
      have hmd : Int.tmod (j : Int) 15 = ((j % 15 : Nat) : Int) := by rw [Int.tmod_eq_emod_of_nonneg (by omega)]; omega
      have hdv2 : (j : Int) / 15 = ((j / 15 : Nat) : Int) := by omega
      have hmd2 : (j : Int) % 15 = ((j % 15 : Nat) : Int) := by omega
      have hm3 : Int.tmod (j : Int) 3 = ((j % 3 : Nat) : Int) := by rw [Int.tmod_eq_emod_of_nonneg (by omega)]; omega
      have hm32 : (j : Int) % 3 = ((j % 3 : Nat) : Int) := by omega
      have HOB := Lib.hid (fun wx => two_bytes wx _ rfl (97 + ((j / 15 : Nat) : Int)) (97 + ((j % 15 : Nat) : Int)) (UInt8.ofNat (97 + j / 15)) (UInt8.ofNat (97 + j % 15)) (many_byte _ hq).symm (many_byte _ hr).symm)
      have HML : Hid (manyL kd t (j + 1) = manyL kd t j ++ (⟨kd, t ++ [UInt8.ofNat (97 + j / 15), UInt8.ofNat (97 + j % 15)]⟩ :: if j % 3 = 0 then [⟨6, TI ++ [UInt8.ofNat (97 + j / 15), UInt8.ofNat (97 + j % 15)]⟩] else [])) := Lib.hid (by rw [HTI.out]; rfl)
      generalize UInt8.ofNat (97 + j / 15) = ca at *
      generalize UInt8.ofNat (97 + j % 15) = cb at *
      generalize j / 15 = q at *
      generalize j % 15 = r at *
      have o1 : bs t ++ bs [ca, cb] = bs (t ++ [ca, cb]) := bs_append _ _
      have o2 : bs TI ++ bs [ca, cb] = bs (TI ++ [ca, cb]) := bs_append _ _
      have l2 : (bs [ca, cb]).size = 2 := by rw [bs_size]; rfl
      have g1 : ¬ (9223372036854775807 < t.length + 2) := by omega
      have g2 : ¬ (9223372036854775807 < t.length + 3 + 2) := by omega
      have w1 : IntKind.u8.wrap (97 + (q : Int)) = 97 + (q : Int) := by rw [IntWalk.u8_in _ (by omega)]
      have w2 : IntKind.u8.wrap (97 + (r : Int)) = 97 + (r : Int) := by rw [IntWalk.u8_in _ (by omega)]
      have hob := HOB.out wr
      have HO := Lib.hid (ho.below ((Below.refl wr.heap.size wr).alloc (Nat.le_refl _) (.cells #[.int .u8 (97 + (q : Int)), .int .u8 (97 + (r : Int))] 5)))
      have HSZ := Lib.hid hbel.size
      have HBEL := Lib.hid hbel
      obtain ⟨A2, n2, c2, rfl⟩ : ∃ A n c, u7 = .slice A n c := by obtain ⟨A, c, e⟩ := own_slice ho; exact ⟨A, _, c, e⟩
      have HJT := Lib.hid hjt
      clear ho hbel hjt
      by_cases h3 : j % 3 = 0
      · have h3i : ((j % 3 : Nat) : Int) = 0 := by omega
        rw [h3i] at hm3 hm32
        rw [if_pos h3] at HML
        clear h3 h3i
        go_wp2_with (first
          | (at_builtin; refine wpList_appN (by rfl) (.tmp 42) (.tmp 57) 22 (by rfl) w.heap.size 59 i0 _ 2 24 Tryz.underlying22 hi0' hz0' hz1 hz2 (by rfl) (by decide) (.slice A3 n3 c3) ((manyL kd t j).length + 1) ((manyL kd t j).flatMap itF ++ itF ⟨kd, t ++ [ca, cb]⟩) (itF ⟨6, TI ++ [ca, cb]⟩) rfl (by simp [itF, Value.oneCell']) (by rfl) (w'.heap.size + 1) (by simp) (by rfl) HO2.out HSZ2.out (by simp only [maxLen]; omega) (by omega) ?_; intro v'' w'' k1 k2 k3; have HB3 := Lib.hid ((HBW.out.alloc HBW.out.size (.cells #[.int .u8 (97 + (q : Int)), .int .u8 (97 + (r : Int))] 5)).grown k2 HSZ2.out (fun k hk => (World.ownsRow.lt HO2.out k hk).1)); have HK := Lib.hid k1; clear k1 k2 k3)
          | (at_builtin; refine wpList_appN (by rfl) (.tmp 22) (.tmp 37) 22 (by rfl) w.heap.size 59 i0 _ 2 24 Tryz.underlying22 hi0' hz0' hz1 hz2 (by rfl) (by decide) (.slice A2 n2 c2) (manyL kd t j).length ((manyL kd t j).flatMap itF) (itF ⟨kd, t ++ [ca, cb]⟩) rfl (by simp [itF, Value.oneCell']) (by rfl) (wr.heap.size + 1) (by simp) (by rfl) HO.out (Nat.le_trans HSZ.out (by simp)) (by simp only [maxLen]; omega) (by omega) ?_; intro v' w' k1 k2 k3; have HBW := Lib.hid ((HBEL.out.alloc HSZ.out (.cells #[.int .u8 (97 + (q : Int)), .int .u8 (97 + (r : Int))] 5)).grown k2 (Nat.le_trans HSZ.out (by simp)) (fun k hk => (World.ownsRow.lt HO.out k hk).1)); obtain ⟨A3, n3, c3, rfl⟩ : ∃ A n c, v' = .slice A n c := (by obtain ⟨A, c, e⟩ := own_slice k1; exact ⟨A, _, c, e⟩); have HO2 := Lib.hid (own_below k1 ((Below.refl w'.heap.size w').alloc (Nat.le_refl _) (.cells #[.int .u8 (97 + (q : Int)), .int .u8 (97 + (r : Int))] 5))); have HSZ2 := Lib.hid (Nat.le_trans HBW.out.size (show w'.heap.size ≤ (w'.alloc (.cells #[.int .u8 (97 + (q : Int)), .int .u8 (97 + (r : Int))] 5)).heap.size by simp)); have hob2 := HOB.out w'; clear k1 k2 k3 hob))
        go_roundw
        case rel =>
          refine ⟨j + 1, by have := HJT.out; omega, by go_num, ?_, HB3.out⟩
          rw [HML.out]
          have := HK.out
          simpa [OwnC, List.flatMap_append] using this
        case measure => have := HJT.out; simp [RowKit.intOf]; omega
      · have h3i : (((j % 3 : Nat) : Int) == 0) = false := by simp; omega
        rw [if_neg h3] at HML
        have h33 : ¬ ((j % 3 : Nat) : Int) = 0 := by omega
        generalize j % 3 = z at *
        clear h3
        go_wp2_with (at_builtin; refine wpList_appN (by rfl) (.tmp 22) (.tmp 37) 22 (by rfl) w.heap.size 59 i0 _ 2 24 Tryz.underlying22 hi0' hz0' hz1 hz2 (by rfl) (by decide) (.slice A2 n2 c2) (manyL kd t j).length ((manyL kd t j).flatMap itF) (itF ⟨kd, t ++ [ca, cb]⟩) rfl (by simp [itF, Value.oneCell']) (by rfl) (wr.heap.size + 1) (by simp) (by rfl) HO.out (Nat.le_trans HSZ.out (by simp)) (by simp only [maxLen]; omega) (by omega) ?_; intro v' w' k1 k2 k3; have HBW := Lib.hid ((HBEL.out.alloc HSZ.out (.cells #[.int .u8 (97 + (q : Int)), .int .u8 (97 + (r : Int))] 5)).grown k2 (Nat.le_trans HSZ.out (by simp)) (fun k hk => (World.ownsRow.lt HO.out k hk).1)); have HK := Lib.hid k1; clear k1 k2 k3 hob)
        go_roundw
        case rel =>
          refine ⟨j + 1, by have := HJT.out; omega, by go_num, ?_, HBW.out⟩
          rw [HML.out]
          have := HK.out
          simpa [OwnC] using this
        case measure => have := HJT.out; simp [RowKit.intOf]; omega
    · obtain rfl : j = m := by omega
      have hi : ¬ (j : Int) < (j : Int) := by omega
      have hll := manyL_len kd t j
      have hlt := manyL_txt kd t j
      obtain ⟨L, hL⟩ : ∃ L, L = manyL kd t j := ⟨_, rfl⟩
      rw [← hL] at ho hll hlt
      have HLT := Lib.hid (fun z hz => Nat.le_trans (hlt z hz) (show t.length + 5 ≤ 100 by omega))
      have HRI := Lib.hid (ho.rowC itF_len)
      have HBEL := Lib.hid hbel
      obtain ⟨A2, n2, c2, rfl⟩ : ∃ A n c, u7 = .slice A n c := by obtain ⟨A, c, e⟩ := own_slice ho; exact ⟨A, _, c, e⟩
      have HNU := Lib.hid (num1_any _ L HRI.out (by omega) HLT.out (HG.out.below hbel))
      have HBD := Lib.hid ((run_bd E1_ok L HLT.out).1.mono (show 600 + 1000 * L.length ≤ 470000 by omega))
      have HRF := Lib.hid (fun wx (hb : Below wr.heap.size wr wx) => r9refs_any (.slice A2 n2 c2) L (HRI.out.step hb) (by omega))
      have HRN := Lib.hid (fun wx a1 (h1 : RowC 2 itF wx wx.heap.size a1 L) => rnumber_any a1 (.slice none 0 0) (.slice none 0 0) (.slice none 0 0) (.slice none 0 0) (.slice none 0 0) (.slice none 0 0) L h1 (by omega) HLT.out (E := E1) ⟨rowC_none _ _ _ _, rowC_none _ _ _ _, rowC_none _ _ _ _, rowC_none _ _ _ _, E1_ok⟩ ⟨_, _, _, rfl⟩ ⟨_, _, _, rfl⟩)
      have HFX := Lib.hid (fun wx (hb : Below w.heap.size w wx) => fixed_any wx (fun wy hb2 => HG.out.below (below_via hb hb2)))
      generalize run E1 L = s1 at *
      clear ho hbel hlt hL hll
      go_wp2_with fail
      refine HNU.out.mono ?_
      rintro e w12 ⟨va, rfl, ow12, c12⟩
      have HO12 := Lib.hid (ow_out ow12)
      have HC12 := Lib.hid c12
      clear ow12 c12
      go_wp2_with fail
      refine (HRF.out _ HC12.out).mono ?_
      rintro e w13 ⟨v13, rfl, o13, c13⟩
      have HR13 := Lib.hid (o13.rowC itF_len)
      have HO13 := Lib.hid (HO12.out.step c13)
      have HC13 := Lib.hid (below_via HC12.out c13)
      clear o13 c13
      go_wp2_with fail
      refine (HRN.out _ _ HR13.out).mono ?_
      rintro e w16 ⟨vb, rfl, ow16, c16⟩
      have HO16 := Lib.hid (row_out ow16)
      have HO14 := Lib.hid (HO13.out.step c16)
      have HC16 := Lib.hid (below_via HC13.out c16)
      clear ow16 c16
      go_wp2_with fail
      refine (same11_any HO14.out HO16.out 470000 (by omega) HBD.out).mono ?_
      rintro e w17 ⟨rfl, c17⟩
      have HC17 := Lib.hid (below_via HC16.out c17)
      clear c17
      go_wp2_with fail
      refine (HFX.out _ (HBEL.out.trans (HC17.out.mono HBEL.out.size))).mono ?_
      rintro e w18 ⟨rfl, c18⟩
      have HC18 := Lib.hid (HBEL.out.trans ((below_via HC17.out c18).mono HBEL.out.size))
      clear c18
      go_wp2_with fail
      go_ret
      exact ⟨rfl, HC18.out⟩
end Go.Proofs.YtjmmfihmamcopaaGreatDoor
