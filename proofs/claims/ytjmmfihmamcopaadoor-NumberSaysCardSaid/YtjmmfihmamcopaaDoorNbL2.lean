/- stetlaw11.NumberSays. -/
import Derived.Test.YtjmmfihmamcopaaDoorNbL0
import Derived.Test.YtjmmfihmamcopaaDoorNbQ4
namespace Go.Proofs.YtjmmfihmamcopaaDoor
open Go.RowKit Tx Nb

theorem r11dig_any (n : Nat) (h : n ≤ 999999) (w : World) : Calls Tryd.prog 16 #[.int .i64 n] w fun e w' => e = .returned (vs (dig (n : Int))) ∧ Below w.heap.size w w' := by
  rw [dig_nat n h]
  exact r11digits_any n h w
theorem ext50 (s : Bs) : (bs s).extract 0 (min ((bs s).size : Int) 50).toNat = bs (s.take 50) := ext_take s 50
theorem ext30 (s : Bs) : (bs s).extract 0 (min ((bs s).size : Int) 30).toNat = bs (s.take 30) := ext_take s 30
set_option maxRecDepth 100000 in
set_option maxHeartbeats 16000000 in
theorem says_any {w : World} (k0 n0 : Bs) (p q : Int) (hk : k0.length ≤ maxLen) (hn : n0.length ≤ maxLen) (hp : 0 ≤ p ∧ p ≤ 255) (hq : 0 ≤ q ∧ q ≤ 255) (hg : Gl w) :
    Calls Tryd.prog 6 #[vs k0, vs n0, .agg #[.int .u8 p, .int .u8 q]] w fun e w' => e = .returned (.bool true) ∧ Below w.heap.size w w' := by
  obtain ⟨W, hW⟩ : ∃ W, W = w.alloc (.cells #[.int .u8 p, .int .u8 q] 59) := ⟨_, rfl⟩
  have hWX : W.heap[w.heap.size]? = some (.cells #[.int .u8 p, .int .u8 q] 59 (0, 0)) := by rw [hW]; exact heap_alloc_new _ _
  have g0 : W.cell? ⟨w.heap.size, 0, none⟩ = some (.int .u8 p) := by rw [Lib.cell_of_heap hWX]; rfl
  have g1 : W.cell? ⟨w.heap.size, 1, none⟩ = some (.int .u8 q) := by rw [Lib.cell_of_heap hWX]; rfl
  have HWB : Hid (Below w.heap.size w W) := Lib.hid (by rw [hW]; exact (Below.refl _ _).alloc (Nat.le_refl _) _)
  have HW := Lib.hid hW
  have HG := Lib.hid hg
  have e1 := ext_take k0 50
  have e2 := ext_take n0 30
  simp only [show ((50 : Nat) : Int) = 50 from rfl] at e1
  simp only [show ((30 : Nat) : Int) = 30 from rfl] at e2
  have z1 := bs_size k0
  have z2 := bs_size n0
  rw [z1] at e1
  rw [z2] at e2
  have f1 : (0 : Int) ≤ min ((bs k0).size : Int) 50 := by omega
  have f2 : min ((bs k0).size : Int) 50 ≤ ((bs k0).size : Int) := by omega
  have f3 : (0 : Int) ≤ min ((bs n0).size : Int) 30 := by omega
  have f4 : min ((bs n0).size : Int) 30 ≤ ((bs n0).size : Int) := by omega
  have o1 : (⟨#[107]⟩ : ByteArray) ++ bs (k0.take 50) = bs (107 :: k0.take 50) := by rw [show (⟨#[107]⟩ : ByteArray) = bs [107] from rfl, bs_append]; rfl
  have o2 : (⟨#[110]⟩ : ByteArray) ++ bs (n0.take 30) = bs (110 :: n0.take 30) := by rw [show (⟨#[110]⟩ : ByteArray) = bs [110] from rfl, bs_append]; rfl
  have lk : (107 :: k0.take 50).length ≤ 51 := by simp only [List.length_cons, List.length_take]; omega
  have ln : (110 :: n0.take 30).length ≤ 31 := by simp only [List.length_cons, List.length_take]; omega
  have o3 : ¬ 9223372036854775807 < (⟨#[107]⟩ : ByteArray).size + (bs (k0.take 50)).size := by rw [bs_size, List.length_take]; have : (⟨#[107]⟩ : ByteArray).size = 1 := rfl; omega
  have o4 : ¬ 9223372036854775807 < (⟨#[110]⟩ : ByteArray).size + (bs (n0.take 30)).size := by rw [bs_size, List.length_take]; have : (⟨#[110]⟩ : ByteArray).size = 1 := rfl; omega
  clear hW hWX hg
  go_enter Tryd.func6, Tryd.ntmps6
  go_upto_region 1 with fail
  rw [← HW.out]
  go_quiet (fail)
  go_upto_region 4 with fail
  generalize k0.take 50 = ks at *
  generalize n0.take 30 = ns at *
  clear e1 e2 z1 z2 f1 f2 f3 f4 o1 o2 o3 o4 g0 g1
  have hwp : IntKind.i64.wrap p = p := IntWalk.i64_in _ (by omega)
  have hwq : IntKind.i64.wrap q = q := IntWalk.i64_in _ (by omega)
  generalize hK : 107 :: ks = K at *
  generalize hM : 110 :: ns = M at *
  obtain ⟨Q, hQ⟩ : ∃ Q : Nat, Q = (q % 40).toNat := ⟨_, rfl⟩
  have htm : q.tmod 40 = (Q : Int) := by rw [Int.tmod_eq_emod_of_nonneg (by omega)]; omega
  have hQ4 : Q < 40 := by omega
  have HK := Lib.hid hK
  have HM := Lib.hid hM
  clear hK hM hQ
  go_upto_region 6 with fail
  obtain ⟨V1, hV1⟩ : ∃ V1, V1 = W.drewN nq := ⟨_, rfl⟩
  obtain ⟨V2, hV2⟩ : ∃ V2, V2 = V1.alloc (.cells #[.string ⟨#[111, 116, 104, 101, 114]⟩, .string ⟨#[120]⟩, .int .i64 0, .string (bs K), .string (bs M), .int .i64 p] 61) := ⟨_, rfl⟩
  obtain ⟨V3, hV3⟩ : ∃ V3, V3 = V2.alloc (.cells #[.slice (some ⟨W.heap.size, 0, none⟩) 2 2, .slice none 0 0, .slice none 0 0, .slice none 0 0] 27) := ⟨_, rfl⟩
  obtain ⟨V4, hV4⟩ : ∃ V4, V4 = V3.alloc (.cells #[.int .i64 7, .string (bs K), .int .i64 2, .string ⟨#[]⟩, .int .i64 8, .string (bs K), .int .i64 2, .string ⟨#[]⟩, .int .i64 9, .string (bs K)] 58) := ⟨_, rfl⟩
  have s1 : V1.heap.size = W.heap.size := by rw [hV1]; simp
  have s2 : V2.heap.size = W.heap.size + 1 := by rw [hV2]; simp [s1]
  have s3 : V3.heap.size = W.heap.size + 1 + 1 := by rw [hV3]; simp [s2]
  have b1 : Below W.heap.size W V1 := by rw [hV1]; exact below_of_drewN nq
  have b2 : Below V1.heap.size V1 V2 := by rw [hV2]; exact (Below.refl _ _).alloc (Nat.le_refl _) _
  have b3 : Below V2.heap.size V2 V3 := by rw [hV3]; exact (Below.refl _ _).alloc (Nat.le_refl _) _
  have b4 : Below V3.heap.size V3 V4 := by rw [hV4]; exact (Below.refl _ _).alloc (Nat.le_refl _) _
  have rl : RowC 3 labF V3 V3.heap.size (.slice (some ⟨W.heap.size, 0, none⟩) 2 2) (saysE K M p).labels := lit_row labF_len 61 V1 V2 V3 W.heap.size s1 [⟨[111, 116, 104, 101, 114], [120], 0⟩, ⟨K, M, p⟩] (by simp) (by rw [hV2]; rfl) b3
  have hSX : V3.heap[W.heap.size + 1]? = some (.cells #[.slice (some ⟨W.heap.size, 0, none⟩) 2 2, .slice none 0 0, .slice none 0 0, .slice none 0 0] 27 (0, 0)) := by rw [hV3, ← s2]; exact heap_alloc_new V2 _
  have rO : OwnC 58 2 itF V3.heap.size V4 (.slice (some ⟨W.heap.size + 1 + 1, 0, none⟩) 5 5) [⟨7, K⟩, ⟨2, []⟩, ⟨8, K⟩, ⟨2, []⟩, ⟨9, K⟩] := by
    have := rowC_lit itF_len 58 [⟨7, K⟩, ⟨2, []⟩, ⟨8, K⟩, ⟨2, []⟩, ⟨9, K⟩] V3 (by simp [maxLen])
    rw [hV4, ← s3]
    exact this
  have hbw : Below w.heap.size w V3 := (HWB.out).trans (((b1.trans ((b2.trans (b3.mono (by omega))).mono (by omega)))).mono HWB.out.size)
  rw [← hV1, ← hV2, ← hV3, ← hV4]
  have HRL := Lib.hid rl
  have HSX := Lib.hid hSX
  have HRO := Lib.hid rO
  have HB3 := Lib.hid hbw
  have HB4 := Lib.hid b4
  have HS3 := Lib.hid (show W.heap.size + 1 < V3.heap.size by omega)
  clear hV1 hV2 hV3 hV4 rl hSX rO hbw b1 b2 b3 b4 s1 s2 s3
  go_wp2_with fail
  go_loopw [10, 11] (fun o i wr => ∃ j : Nat, j ≤ Q ∧ i = .int .i64 j ∧ OwnC 58 2 itF V3.heap.size wr o ([⟨7, K⟩, ⟨2, []⟩, ⟨8, K⟩, ⟨2, []⟩, ⟨9, K⟩] ++ List.replicate j ⟨11, K⟩) ∧ Below V3.heap.size V3 wr) (fun _ i _ => Q - (RowKit.intOf i).toNat)
  case atStart => exact ⟨0, Nat.zero_le _, rfl, HRO.out, HB4.out⟩
  case round =>
    obtain ⟨j, hj, rfl, hown, hbel⟩ := hrel
    obtain ⟨i0, hi0', hz0, hz1, hz2⟩ := info_parts itInfo
    have HBEL := Lib.hid hbel
    have HSZ := Lib.hid hbel.size
    obtain ⟨LL, hLL⟩ : ∃ LL, LL = [⟨7, K⟩, ⟨2, []⟩, ⟨8, K⟩, ⟨2, []⟩, ⟨9, K⟩] ++ List.replicate j (⟨11, K⟩ : Nb.It) := ⟨_, rfl⟩
    have hll : LL.length ≤ 45 := by rw [hLL]; simp; omega
    rw [← hLL] at hown
    have HLL := Lib.hid hLL
    have HOWN := Lib.hid hown
    clear hown hbel hLL
    by_cases hjt : j < Q
    · have hi : (j : Int) < (Q : Int) := by omega
      obtain ⟨B1, n1, b1, rfl⟩ : ∃ A n c, u10 = .slice A n c := by obtain ⟨A, c, e, _⟩ := (HOWN.out.rowC itF_len).shape; exact ⟨A, _, c, e⟩
      go_wp2_with (at_builtin; refine wpList_appN (by rfl) (.tmp 54) (.tmp 57) 22 (by rfl) V3.heap.size 58 i0 _ 2 24 Tryd.underlying22 hi0' hz0 hz1 hz2 (by rfl) (by decide) (.slice B1 n1 b1) (LL).length ((LL).flatMap itF) [.int .i64 11, vs K] rfl (by simp [Value.oneCell', vs]) (by rfl) wr.heap.size rfl (by rfl) HOWN.out HSZ.out (by simp only [maxLen]; omega) (by omega) ?_; intro v' w' q1 q2 q3; obtain ⟨A', c', hv'⟩ := own_slice q1; obtain ⟨A', n', c', rfl⟩ : ∃ A n c, v' = .slice A n c := ⟨_, _, _, hv'⟩; clear hv'; have HQ := Lib.hid (And.intro q1 (And.intro q2 q3)); clear q1 q2 q3)
      go_roundw
      case rel =>
        obtain ⟨q1, q2, q3⟩ := HQ.out
        refine ⟨j + 1, by omega, by go_num, ?_, ?_⟩
        · rw [List.replicate_succ', ← List.append_assoc, ← HLL.out]
          simpa [OwnC, itF] using q1
        · exact HBEL.out.grown q2 HSZ.out (fun k hk => (World.ownsRow.lt HOWN.out k hk).1)
      case measure => simp [RowKit.intOf]; omega
    · obtain rfl : j = Q := by omega
      have hi : ¬ (j : Int) < (j : Int) := by omega
      go_upto_region 11 with (at_builtin; refine wpList_appN (by rfl) (.tmp 59) (.tmp 61) 22 (by rfl) V3.heap.size 58 i0 _ 2 24 Tryd.underlying22 hi0' hz0 hz1 hz2 (by rfl) (by decide) u10 (LL).length ((LL).flatMap itF) [.int .i64 3, .string ⟨#[]⟩] rfl (by simp [Value.oneCell', vs]) (by rfl) wr.heap.size rfl (by rfl) HOWN.out HSZ.out (by simp [maxLen]; omega) (by first | omega | (simp; omega)) ?_; intro vA wA q1 q2 q3; have HQvA := Lib.hid (And.intro q1 (And.intro q2 q3)); clear q1 q2 q3)
      obtain ⟨q1, q2, q3⟩ := HQvA.out
      obtain ⟨LA, hLA⟩ : ∃ LA, LA = LL ++ [(⟨3, []⟩ : Nb.It)] := ⟨_, rfl⟩
      have hla : LA.length ≤ 46 := by rw [hLA]; simp; omega
      have HLA := Lib.hid hLA
      have HOA := Lib.hid (show OwnC 58 2 itF V3.heap.size wA vA LA by rw [hLA]; simpa [OwnC, itF, vs, bs] using q1)
      clear hLA
      have HBA := Lib.hid (HBEL.out.grown q2 HSZ.out (fun k hk => (World.ownsRow.lt HOWN.out k hk).1))
      have HSA := Lib.hid HBA.out.size
      clear q1 q2 q3 HQvA HOWN HBEL HSZ
      go_upto_region 12 with (at_builtin; refine wpList_appN (by rfl) (.tmp 63) (.tmp 66) 22 (by rfl) V3.heap.size 58 i0 _ 2 24 Tryd.underlying22 hi0' hz0 hz1 hz2 (by rfl) (by decide) vA (LA).length ((LA).flatMap itF) [.int .i64 12, .string (bs K)] rfl (by simp [Value.oneCell', vs]) (by rfl) wA.heap.size rfl (by rfl) HOA.out HSA.out (by simp [maxLen]; omega) (by first | omega | (simp; omega)) ?_; intro vB wB q1 q2 q3; obtain ⟨A', c', hv'⟩ := own_slice q1; obtain ⟨AvB, nvB, cvB, rfl⟩ : ∃ A n c, vB = .slice A n c := ⟨_, _, _, hv'⟩; clear hv'; have HQvB := Lib.hid (And.intro q1 (And.intro q2 q3)); clear q1 q2 q3)
      obtain ⟨q1, q2, q3⟩ := HQvB.out
      have hob : OwnC 58 2 itF V3.heap.size wB (.slice AvB nvB cvB) (saysL K j) := by
        unfold saysL
        rw [← HLL.out]
        have : LL ++ [(⟨3, []⟩ : Nb.It), ⟨12, K⟩] = LA ++ [⟨12, K⟩] := by rw [HLA.out]; simp
        rw [this]
        simpa [OwnC, itF, vs] using q1
      have hbb : Below V3.heap.size V3 wB := HBA.out.grown q2 HSA.out (fun k hk => (World.ownsRow.lt HOA.out k hk).1)
      have hsx := (hbb.block _ HS3.out).trans HSX.out
      have y0 : wB.cell? ⟨W.heap.size + 1, 0, none⟩ = some (.slice (some ⟨W.heap.size, 0, none⟩) 2 2) := by rw [Lib.cell_of_heap hsx]; rfl
      have y1 : wB.cell? ⟨W.heap.size + 1, 1, none⟩ = some (.slice none 0 0) := by rw [Lib.cell_of_heap hsx]; rfl
      have y2 : wB.cell? ⟨W.heap.size + 1, 2, none⟩ = some (.slice none 0 0) := by rw [Lib.cell_of_heap hsx]; rfl
      have y3 : wB.cell? ⟨W.heap.size + 1, 3, none⟩ = some (.slice none 0 0) := by rw [Lib.cell_of_heap hsx]; rfl
      have o1 : bs K ++ (⟨#[49]⟩ : ByteArray) = bs (K ++ [49]) := by rw [show (⟨#[49]⟩ : ByteArray) = bs [49] from rfl, bs_append]
      have o2 : ¬ 9223372036854775807 < (bs K).size + (⟨#[49]⟩ : ByteArray).size := by rw [bs_size]; have : (⟨#[49]⟩ : ByteArray).size = 1 := rfl; omega
      obtain ⟨wC, hwC⟩ : ∃ wC, wC = wB.alloc (.cells #[.string (bs (K ++ [49])), .string ⟨#[110, 111]⟩, .string ⟨#[]⟩, .string (bs K), .string (bs M), .string ⟨#[]⟩] 63) := ⟨_, rfl⟩
      have hbc : Below wB.heap.size wB wC := by rw [hwC]; exact (Below.refl _ _).alloc (Nat.le_refl _) _
      have rC : RowC 3 ciF wC wC.heap.size (.slice (some ⟨wB.heap.size, 0, none⟩) 2 2) (saysE K M p).bbl := lit_row ciF_len 63 wB wC wC wB.heap.size rfl [⟨K ++ [49], [110, 111], []⟩, ⟨K, M, []⟩] (by simp) (by rw [hwC]; rfl) (Below.refl _ _)
      have hbV : Below V3.heap.size V3 wC := hbb.trans (hbc.mono hbb.size)
      have hbW : Below w.heap.size w wC := below_via HB3.out hbV
      have hEok : (saysE K M p).Ok := by
        refine ⟨by simp [saysE], ?_, by simp [saysE], by simp [saysE], by simp [saysE], ?_, by simp [saysE], by simp [saysE]⟩
        · intro x hx
          simp only [saysE, List.mem_cons, List.not_mem_nil, or_false] at hx
          rcases hx with rfl | rfl
          · simp
          · simp only; omega
        · intro x hx
          simp only [saysE, List.mem_cons, List.not_mem_nil, or_false] at hx
          rcases hx with rfl | rfl
          · simp
          · simp only [List.length_nil]; omega
      have hLl : (saysL K j).length ≤ 700 := by simp [saysL]; omega
      have hLx : ∀ x ∈ saysL K j, x.s.length ≤ 100 := by
        intro x hx
        simp only [saysL, List.mem_append, List.mem_cons, List.not_mem_nil, or_false, List.mem_replicate] at hx
        rcases hx with ((rfl | rfl | rfl | rfl | rfl) | ⟨_, rfl⟩) | (rfl | rfl) <;> simp only [List.length_nil] <;> omega
      have HN := Lib.hid (number_any (.slice AvB nvB cvB) (.slice (some ⟨W.heap.size, 0, none⟩) 2 2) (.slice none 0 0) (.slice none 0 0) (.slice none 0 0) (.slice (some ⟨wB.heap.size, 0, none⟩) 2 2) (.slice none 0 0) (saysL K j) ((hob.rowC itF_len).step hbc) hLl hLx
        ⟨HRL.out.step hbV, rowC_none _ _ _ _, rC, rowC_none _ _ _ _, hEok, fun wx hb => HG.out.below (below_via hbW hb)⟩ ⟨_, _, _, rfl⟩ ⟨_, _, _, rfl⟩)
      obtain ⟨r1, r2, r3⟩ := says_run ks ns p j
      rw [HK.out, HM.out] at r1 r2 r3
      generalize run (saysE K M p) (saysL K j) = s at *
      have HWC := Lib.hid hwC
      have HBW := Lib.hid hbW
      have R1 := Lib.hid r1
      have R2 := Lib.hid r2
      have R3 := Lib.hid r3
      clear hob hbb hsx hwC hbc rC hbV hbW hEok hLl hLx r1 r2 r3 q1 q2 q3 HQvB HOA HBA HSA
      go_wp2_with fail
      rw [← HWC.out]
      refine HN.out.mono ?_
      rintro e w9 ⟨v, rfl, ho, hb9⟩
      have hov : OutIs w9 v s := ow_out ho
      obtain ⟨⟨A0, c0, e0⟩, ⟨A1, c1, e1⟩, ⟨A2, c2, e2⟩, ⟨A3, c3, e3⟩, ⟨A4, c4, e4⟩, ⟨A5, c5, e5⟩, ⟨A6, c6, e6⟩, ⟨A7, c7, e7⟩, ⟨A8, c8, e8⟩, ⟨A9, c9, e9⟩⟩ := hov.shapes
      rw [R1.out] at e0
      rw [R3.out] at e3
      rw [R2.out] at e9
      replace e0 : v 0 = .slice A0 2 c0 := e0
      replace e3 : v 3 = .slice A3 1 c3 := e3
      replace e9 : v 9 = .slice A9 0 c9 := e9
      rw [e0, e1, e2, e3, e4, e5, e6, e7, e8, e9]
      have hbl := hov.bl
      rw [R1.out, e0] at hbl
      obtain ⟨V9, hV9⟩ : ∃ V9, V9 = w9.alloc (.cells #[.slice A0 2 c0, .slice A1 s.labels.length c1, .slice A2 s.heads.length c2, .slice A3 1 c3, .slice A4 s.bibs.length c4, .slice A5 s.la.length c5, .slice A6 s.ha.length c6, .slice A7 s.ia.length c7, .slice A8 s.index.length c8, .slice A9 0 c9] 36) := ⟨_, rfl⟩
      have hO : V9.heap[w9.heap.size]? = some (.cells #[.slice A0 2 c0, .slice A1 s.labels.length c1, .slice A2 s.heads.length c2, .slice A3 1 c3, .slice A4 s.bibs.length c4, .slice A5 s.la.length c5, .slice A6 s.ha.length c6, .slice A7 s.ia.length c7, .slice A8 s.index.length c8, .slice A9 0 c9] 36 (0, 0)) := by rw [hV9]; exact heap_alloc_new w9 _
      have hb9' : Below w9.heap.size w9 V9 := by rw [hV9]; exact (Below.refl _ _).alloc (Nat.le_refl _) _
      have HBL := Lib.hid (hbl.step hb9')
      have HO := Lib.hid hO
      have HOL := Lib.hid (lt_of_block hO)
      have HBV := Lib.hid (below_via HBW.out (below_via hb9 hb9'))
      have HV9 := Lib.hid hV9
      clear hov hbl hO hb9' hV9 ho hb9 e0 e1 e2 e3 e4 e5 e6 e7 e8 e9 HN HBW HWC y0 y1 y2 y3 o1 o2
      go_upto_region 13 with fail
      rw [← HV9.out]
      obtain ⟨dp, hdp⟩ : ∃ d, d = dig p := ⟨_, rfl⟩
      obtain ⟨dq, hdq⟩ : ∃ d, d = dig (j : Int) := ⟨_, rfl⟩
      have hd1 : ∀ wx : World, Calls Tryd.prog 16 #[.int .i64 p] wx fun e w' => e = .returned (vs dp) ∧ Below wx.heap.size wx w' := by
        intro wx
        have := r11dig_any p.toNat (by omega) wx
        rw [show ((p.toNat : Nat) : Int) = p by omega, ← hdp] at this
        exact this
      have hd2 : ∀ wx : World, Calls Tryd.prog 16 #[.int .i64 (j : Int)] wx fun e w' => e = .returned (vs dq) ∧ Below wx.heap.size wx w' := by
        intro wx
        have := r11dig_any j (by omega) wx
        rw [← hdq] at this
        exact this
      rw [← hdp, ← hdq] at HBL
      have HD1 := Lib.hid hd1
      have HD2 := Lib.hid hd2
      have o1 : (⟨#[91]⟩ : ByteArray) ++ bs M = bs (91 :: M) := by rw [show (⟨#[91]⟩ : ByteArray) = bs [91] from rfl, bs_append]; rfl
      have o2 : bs (91 :: M) ++ (⟨#[93]⟩ : ByteArray) = bs (91 :: (M ++ [93])) := by rw [show (⟨#[93]⟩ : ByteArray) = bs [93] from rfl, bs_append]; rfl
      have o3 : ¬ 9223372036854775807 < (⟨#[91]⟩ : ByteArray).size + (bs M).size := by rw [bs_size]; have : (⟨#[91]⟩ : ByteArray).size = 1 := rfl; omega
      have o4 : ¬ 9223372036854775807 < (bs (91 :: M)).size + (⟨#[93]⟩ : ByteArray).size := by rw [bs_size]; have : (⟨#[93]⟩ : ByteArray).size = 1 := rfl; simp only [List.length_cons]; omega
      clear hd1 hd2 hdp hdq R1 R2 R3
      go_wp2_with fail
      refine (HD1.out _).mono ?_
      rintro e wD ⟨rfl, hbD⟩
      have HBD := Lib.hid hbD
      clear hbD
      go_wp2_with fail
      refine (HD2.out _).mono ?_
      rintro e wE ⟨rfl, hbE⟩
      have HBE := Lib.hid hbE
      clear hbE
      go_upto_region 14 with fail
      obtain ⟨wD1, hwD1⟩ : ∃ w1, w1 = wD.alloc (.cells #[.string (bs M), .string (bs dp), .string (bs (91 :: (M ++ [93])))] 9) := ⟨_, rfl⟩
      obtain ⟨wF, hwF⟩ : ∃ w1, w1 = wE.alloc (.cells #[.string (bs dq)] 9) := ⟨_, rfl⟩
      obtain ⟨wG, hwG⟩ : ∃ w1, w1 = wF.alloc (.cells #[.int .i64 0, .slice (some ⟨wD.heap.size, 0, none⟩) 3 3, .int .i64 0, .slice (some ⟨wE.heap.size, 0, none⟩) 1 1] 64) := ⟨_, rfl⟩
      have bD1 : Below wD.heap.size wD wD1 := by rw [hwD1]; exact (Below.refl _ _).alloc (Nat.le_refl _) _
      have bE : Below wD1.heap.size wD1 wE := by rw [hwD1]; exact HBE.out
      have bF : Below wE.heap.size wE wF := by rw [hwF]; exact (Below.refl _ _).alloc (Nat.le_refl _) _
      have bG : Below wF.heap.size wF wG := by rw [hwG]; exact (Below.refl _ _).alloc (Nat.le_refl _) _
      have bEG := below_via bF bG
      have bDG := below_via bE bEG
      have bVG := below_via HBD.out (below_via bD1 bDG)
      have sF : wF.heap.size = wE.heap.size + 1 := by rw [hwF]; simp
      have t1 : RowC 1 txF wG wG.heap.size (.slice (some ⟨wD.heap.size, 0, none⟩) 3 3) [M, dp, 91 :: (M ++ [93])] := lit_txs wD wD1 wG wD.heap.size rfl [M, dp, 91 :: (M ++ [93])] (by simp) (by rw [hwD1]; rfl) bDG
      have t2 : RowC 1 txF wG wG.heap.size (.slice (some ⟨wE.heap.size, 0, none⟩) 1 1) [dq] := lit_txs wE wF wG wE.heap.size rfl [dq] (by simp) (by rw [hwF]; rfl) bG
      have t3 : RowC 2 bkF wG wG.heap.size (.slice (some ⟨wE.heap.size + 1, 0, none⟩) 2 2) [((0 : Int), Value.slice (some ⟨wD.heap.size, 0, none⟩) 3 3), (0, Value.slice (some ⟨wE.heap.size, 0, none⟩) 1 1)] := lit_row bkF_len 64 wF wG wG (wE.heap.size + 1) sF [((0 : Int), Value.slice (some ⟨wD.heap.size, 0, none⟩) 3 3), (0, Value.slice (some ⟨wE.heap.size, 0, none⟩) 1 1)] (by simp) (by rw [hwG]; rfl) (Below.refl _ _)
      have hwant : BlRow wG (.slice (some ⟨wE.heap.size + 1, 0, none⟩) 2 2) [(0, [M, dp, 91 :: (M ++ [93])]), (0, [dq])] := by
        refine ⟨_, t3, rfl, fun m h1 h2 => ?_⟩
        match m, h1 with
        | 0, _ => exact ⟨rfl, t1⟩
        | 1, _ => exact ⟨rfl, t2⟩
      have hgot := HBL.out.step bVG
      have hOg := (bVG.block _ HOL.out).trans HO.out
      have y0 : wG.cell? ⟨w9.heap.size, 0, none⟩ = some (.slice A0 2 c0) := by rw [Lib.cell_of_heap hOg]; rfl
      have y3 : wG.cell? ⟨w9.heap.size, 3, none⟩ = some (.slice A3 1 c3) := by rw [Lib.cell_of_heap hOg]; rfl
      have y9 : wG.cell? ⟨w9.heap.size, 9, none⟩ = some (.slice A9 0 c9) := by rw [Lib.cell_of_heap hOg]; rfl
      have HX := Lib.hid (blocks_any _ _ _ hgot hwant (by simp) (by
        intro z hz
        simp only [List.mem_cons, List.not_mem_nil, or_false] at hz
        rcases hz with rfl | rfl <;> simp))
      have HBG := Lib.hid (below_via HBV.out bVG)
      rw [← hwF, ← hwG]
      clear hgot hOg hwant t1 t2 t3 hwD1 hwF hwG bD1 bE bF bG bEG bDG bVG sF HD1 HD2 o1 o2 o3 o4 HBD HBE
      go_wp2_with fail
      refine HX.out.mono ?_
      rintro e w7 ⟨rfl, n7, rfl⟩
      have HX2 := Lib.hid (fixed_any (wG.drewN n7) (fun wx hb => HG.out.below (below_via (below_drewN HBG.out n7) hb)))
      clear HX
      go_wp2_with fail
      refine HX2.out.mono ?_
      rintro e w8 ⟨rfl, hb8⟩
      go_wp2_with fail
      go_ret
      exact ⟨rfl, below_via (below_drewN HBG.out n7) hb8⟩
end Go.Proofs.YtjmmfihmamcopaaDoor
