/- The reference's may and Right. -/
import Derived.Test.YtiogmegdkfnkkaaGreatDoorQ8
import Derived.Test.YtiogmegdkfnkkaaGreatDoorQ9
import Derived.Test.YtiogmegdkfnkkaaGreatDoorQ7
import Derived.Test.YtiogmegdkfnkkaaGreatDoorQ10
namespace Go.Proofs.YtiogmegdkfnkkaaGreatDoor
open Go.RowKit Tx

theorem or_false2 {a b : Bool} (h : false = (a || b)) : a = false ∧ b = false := by cases a <;> cases b <;> first | exact ⟨rfl, rfl⟩ | cases h
theorem any_takeS (ns : List Rc.Seen) (j : Nat) (n : Bs) (h : j < ns.length) : (ns.take (j + 1)).any (fun m => m.1 == n) = ((ns.take j).any (fun m => m.1 == n) || ns[j].1 == n) := by
  rw [List.take_succ_eq_append_getElem h, List.any_append]
  simp
set_option maxRecDepth 100000 in
set_option maxHeartbeats 8000000 in
theorem rmay_any (rz : Raw) (z : Rc.Rec) (w : World) (hz : RecIs w w.heap.size rz z) (hok : RecOk z) (hz1 : z.2.1.length < 1000000) :
    Calls Tryz.prog 24 #[.agg #[.string (bs rz.1), rz.2.1, rz.2.2]] w fun e w' => e = .returned (.bool (Rc.mayR z)) ∧ Below w.heap.size w w' := by
  obtain ⟨zA, zp, zA', zp', rfl⟩ := hz.rows
  simp only
  have hb0 : Below w.heap.size w (w.alloc (.cells #[.string (bs z.1), .slice zA z.2.1.length zp, .slice zA' z.2.2.length zp'] 52)) := (Below.refl _ _).alloc (Nat.le_refl _) _
  have hz0 : (w.alloc (.cells #[.string (bs z.1), .slice zA z.2.1.length zp, .slice zA' z.2.2.length zp'] 52)).heap[w.heap.size]? = some (.cells #[.string (bs z.1), .slice zA z.2.1.length zp, .slice zA' z.2.2.length zp'] 52 (0, 0)) := heap_alloc_new _ _
  obtain ⟨k1, k2⟩ := hok
  have HSO := Lib.hid k2.1
  have HFO := Lib.hid k2.2
  have hm1 := k1
  simp only [maxLen] at hm1
  clear k1 k2
  go_enter Tryz.func24, Tryz.ntmps24
  go_wp2_with fail
  obtain ⟨W, hW⟩ : ∃ W, W = w.alloc (.cells #[.string (bs z.1), .slice zA z.2.1.length zp, .slice zA' z.2.2.length zp'] 52) := ⟨_, rfl⟩
  rw [← hW] at hb0 hz0 ⊢
  clear hW
  obtain ⟨X, hX⟩ : ∃ X, X = w.heap.size := ⟨_, rfl⟩
  rw [← hX] at hz0 ⊢
  have HXE := Lib.hid hX
  clear hX
  have hzW := hz.step hb0
  obtain ⟨_, _, e1, _, _, h3⟩ := hzW.reads.shape
  simp only at e1
  injection e1 with e1 _ e1'
  subst e1 e1'
  have H3 := Lib.hid h3
  have HW := Lib.hid hzW.writes
  have HB := Lib.hid hb0
  have HZ := Lib.hid hz0
  clear h3 hz hzW hb0 hz0
  go_loopw [3] (fun i wr => ∃ k : Nat, k ≤ z.2.1.length ∧ i = .int .i64 k ∧ Hid (∀ j < k, Rc.stepS z.2.1 j = true) ∧ Below W.heap.size W wr) (fun i _ => z.2.1.length - (RowKit.intOf i).toNat)
  case atStart => exact ⟨0, Nat.zero_le _, rfl, Lib.hid (fun j h => by omega), Below.refl _ _⟩
  case round =>
    obtain ⟨k, hk, rfl, hst, hbel⟩ := hrel
    have hzr := (hbel.block X (lt_of_block HZ.out)).trans HZ.out
    obtain ⟨c0, c1, c2, _, _, _⟩ := cells3 hzr
    by_cases hlt : k < z.2.1.length
    · obtain ⟨b, off, rfl, hbl, hcc⟩ := H3.out (by intro e; rw [e] at hlt; simp at hlt)
      obtain ⟨y1, y2, y3⟩ := sf_cells (fun i u hu => (hbel.cell (p := ⟨b, off + k * 3 + i, none⟩) hbl).trans (hcc k hlt i u hu))
      have HCC := Lib.hid (fun j (hj : j < z.2.1.length) => (sf_cells (fun i u hu => (hbel.cell (p := ⟨b, off + j * 3 + i, none⟩) hbl).trans (hcc j hj i u hu))).1)
      have HAT := Lib.hid (Rc.stepS_at z.2.1 k hlt)
      have HNO := Lib.hid (Rc.mayR_no z k hlt)
      have HAN := Lib.hid (fun j (hj : j < z.2.1.length) => any_takeS z.2.1 j z.2.1[k].1 hj)
      have hso := HSO.out _ (List.getElem_mem hlt)
      clear hcc
      generalize z.2.1[k] = r at *
      obtain ⟨r1, r2, r3⟩ := r
      obtain ⟨s1, s2⟩ := hso
      simp only [maxLen] at s1 s2
      simp only at y1 y2 y3 HAN
      have hal : Below wr.heap.size wr (wr.alloc (.cells #[.string (bs r1), .bool r2, .string (bs r3)] 72)) := (Below.refl _ _).alloc (Nat.le_refl _) _
      have i0 : (0 : Int) ≤ (k : Int) := by omega
      have i1 : (k : Int) < (z.2.1.length : Int) := by omega
      have z1 := bs_size r1
      have z3 := bs_size r3
      have HSK : Hid (Rc.seenOk (r1, r2, r3) = (!r1.isEmpty && (decide (r1.length ≤ 100) && (decide (r3.length ≤ 4000) && (r2 || r3.isEmpty))))) := Lib.hid (seenOk_eq r1 r2 r3)
      have hBA : Below w.heap.size w (wr.alloc (.cells #[.string (bs r1), .bool r2, .string (bs r3)] 72)) := below_via HB.out (below_via hbel hal)
      have HBA := Lib.hid hBA
      rw [HSK.out] at HAT
      clear hBA HSK
      by_cases q1 : r1.length < 1
      · have a1 : decide (((bs r1).size : Int) < 1) = true := decide_eq_true (by omega)
        have a2 : decide ((r1.length : Int) < 1) = true := decide_eq_true (by omega)
        have HFF : Hid (Rc.mayR z = false) := Lib.hid (HNO.out (by
          rw [HAT.out]
          have : r1 = [] := List.eq_nil_of_length_eq_zero (by omega)
          rw [this]; rfl))
        clear HAT HNO q1 z1 z3
        go_wp2_with fail
        go_ret
        exact ⟨ret_bool HFF.out.symm, HBA.out⟩
      have a1 : decide (((bs r1).size : Int) < 1) = false := decide_eq_false (by omega)
      have a2 : decide ((r1.length : Int) < 1) = false := decide_eq_false (by omega)
      have hne1 : r1.isEmpty = false := by cases r1 <;> simp_all
      by_cases q2 : 100 < r1.length
      · have b1 : decide (100 < ((bs r1).size : Int)) = true := decide_eq_true (by omega)
        have b2 : decide (100 < (r1.length : Int)) = true := decide_eq_true (by omega)
        have b3 : decide (100 < r1.length) = true := decide_eq_true (by omega)
        have HFF : Hid (Rc.mayR z = false) := Lib.hid (HNO.out (by rw [HAT.out, hne1, decide_eq_false (by omega : ¬ r1.length ≤ 100)]; rfl))
        clear HAT HNO q1 q2 z1 z3 hne1
        go_wp2_with fail
        go_ret
        exact ⟨ret_bool HFF.out.symm, HBA.out⟩
      have b1 : decide (100 < ((bs r1).size : Int)) = false := decide_eq_false (by omega)
      have b2 : decide (100 < (r1.length : Int)) = false := decide_eq_false (by omega)
      have b3 : decide (100 < r1.length) = false := decide_eq_false (by omega)
      by_cases q3 : 4000 < r3.length
      · have d1 : decide (4000 < ((bs r3).size : Int)) = true := decide_eq_true (by omega)
        have d2 : decide (4000 < (r3.length : Int)) = true := decide_eq_true (by omega)
        have d3 : decide (4000 < r3.length) = true := decide_eq_true (by omega)
        have HFF : Hid (Rc.mayR z = false) := Lib.hid (HNO.out (by rw [HAT.out, hne1, decide_eq_false (by omega : ¬ r3.length ≤ 4000)]; simp))
        clear HAT HNO q1 q2 q3 z1 z3 hne1
        go_wp2_with fail
        go_ret
        exact ⟨ret_bool HFF.out.symm, HBA.out⟩
      have d1 : decide (4000 < ((bs r3).size : Int)) = false := decide_eq_false (by omega)
      have d2 : decide (4000 < (r3.length : Int)) = false := decide_eq_false (by omega)
      have d3 : decide (4000 < r3.length) = false := decide_eq_false (by omega)
      have HA2 : Hid (Rc.stepS z.2.1 k = ((r2 || r3.isEmpty) && !((z.2.1.take k).any fun q => q.1 == r1))) := Lib.hid (by rw [HAT.out, hne1, decide_eq_true (by omega : r1.length ≤ 100), decide_eq_true (by omega : r3.length ≤ 4000)]; rfl)
      clear HAT q1 q2 q3 z1 z3 hne1
      have hts : ((bs r3).toList == []) = r3.isEmpty := by rw [toListB]; cases r3 <;> rfl
      have htn : ((bs r3).toList != []) = !r3.isEmpty := by rw [bne, hts]
      have hti : (bs r3).toList.isEmpty = r3.isEmpty := by rw [toListB]
      generalize r3.isEmpty = qe at *
      obtain ⟨ok4, hok4⟩ : ∃ q, q = (r2 || qe) := ⟨_, rfl⟩
      cases ok4 with
      | false =>
        obtain ⟨rfl, rfl⟩ := or_false2 hok4
        have HFF : Hid (Rc.mayR z = false) := Lib.hid (HNO.out (by rw [HA2.out]; rfl))
        clear HA2 HNO hok4
        go_wp2_with fail
        go_ret
        exact ⟨ret_bool HFF.out.symm, HBA.out⟩
      | true =>
        have HA3 : Hid (Rc.stepS z.2.1 k = !((z.2.1.take k).any fun q => q.1 == r1)) := Lib.hid (by rw [HA2.out, ← hok4]; rfl)
        clear HA2
        have HOK4 := Lib.hid hok4
        clear hok4
        have hnew := heap_alloc_new wr (.cells #[.string (bs r1), .bool r2, .string (bs r3)] 72)
        obtain ⟨w1, hw1⟩ : ∃ W, W = wr.alloc (.cells #[.string (bs r1), .bool r2, .string (bs r3)] 72) := ⟨_, rfl⟩
        rw [← hw1] at hnew hal HBA
        have HW1 := Lib.hid hw1
        clear hw1
        go_upto_region 5 with fail
        rw [← HW1.out]
        obtain ⟨e0, e1, e2, _, _, _⟩ := cells3 hnew
        have hzr1 := (hal.block X (lt_of_block hzr)).trans hzr
        obtain ⟨g0, g1, g2, _, _, _⟩ := cells3 hzr1
        have HC1 := Lib.hid (fun j (hj : j < z.2.1.length) => (hal.cell (p := ⟨b, off + j * 3, none⟩) (Nat.lt_of_lt_of_le hbl hbel.size)).trans (HCC.out j hj))
        clear HW1 c0 c1 c2 y1 y2 y3 HCC
        go_cut [43] (fun bv wx => bv = .bool false ∧ w1 = wx)
        case first =>
          cases r2 with
          | true =>
            go_wp2_with fail
            go_meet
            exact ⟨rfl, rfl⟩
          | false =>
            obtain rfl : qe = true := by simpa using HOK4.out.symm
            go_wp2_with fail
            go_meet
            exact ⟨rfl, rfl⟩
        case rest =>
          obtain ⟨rfl, rfl⟩ := hcut
          clear hts htn hti HOK4 a1 a2 b1 b2 b3 d1 d2 d3
          go_wp2_with fail
          go_loopw [5] (fun i wx => ∃ j d : Nat, j ≤ k ∧ i = .int .i64 j ∧ Hid (((z.2.1.take j).any fun q => q.1 == r1) = false) ∧ wx = w1.drewN d) (fun i _ => k - (RowKit.intOf i).toNat)
          case atStart => exact ⟨0, 0, Nat.zero_le _, rfl, Lib.hid (by simp), rfl⟩
          case round =>
            obtain ⟨j, d, hj, rfl, hany, rfl⟩ := hrel
            by_cases hjt : j < k
            · have k4 := HC1.out j (by omega)
              have HL := Lib.hid (HAN.out j (by omega))
              rw [hany.out] at HL
              have HYES := Lib.hid (fun (he : (z.2.1[j]'(by omega)).1 = r1) => (show ((z.2.1.take k).any fun q => q.1 == r1) = true from List.any_eq_true.2 ⟨z.2.1[j]'(by omega), List.mem_take_iff_getElem.2 ⟨j, by omega, rfl⟩, by simp [he]⟩))
              generalize z.2.1[j]'(by omega) = x at *
              have j0 : (0 : Int) ≤ (j : Int) := by omega
              have j1 : (j : Int) < (k : Int) := by omega
              have j2 : (j : Int) < (z.2.1.length : Int) := by omega
              by_cases hx : x.1 = r1
              · have hbe : ((bs x.1).toList == (bs r1).toList) = true := by rw [hx]; simp
                have HFF : Hid (Rc.mayR z = false) := Lib.hid (HNO.out (by rw [HA3.out, HYES.out hx]; rfl))
                clear hx HA3 HNO
                go_wp2_with fail
                go_quiet (fail)
                go_wp2_with fail
                go_ret
                exact ⟨ret_bool HFF.out.symm, below_via HBA.out (below_drewN (below_of_drewN _) _)⟩
              · have hbe : ((bs x.1).toList == (bs r1).toList) = false := by rw [toListB, toListB]; exact beq_eq_false_iff_ne.2 hx
                have HFA : Hid (((z.2.1.take (j + 1)).any fun q => q.1 == r1) = false) := Lib.hid (by rw [HL.out]; simpa using hx)
                clear hx
                go_wp2_with fail
                go_quiet (fail)
                go_wp2_with fail
                go_roundw
                case rel => exact ⟨j + 1, _, by omega, by go_num, HFA, by first | rfl | exact World.drewN_drewN _ _ _⟩
                case measure => simp [RowKit.intOf]; omega
            · obtain rfl : j = k := by omega
              have HOK : Hid (Rc.stepS z.2.1 j = true) := Lib.hid (by rw [HA3.out, hany.out]; rfl)
              go_wp2_with fail
              go_roundw
              case rel => exact ⟨j + 1, by omega, by go_num, Lib.hid (fun i hi => by rcases Nat.lt_or_eq_of_le (Nat.lt_succ_iff.1 hi) with h | rfl; exact hst.out i h; exact HOK.out), (below_via hbel hal).trans (below_of_drewN d)⟩
              case measure => simp [RowKit.intOf]; omega
    · obtain rfl : k = z.2.1.length := by omega
      have HE := Lib.hid (Rc.mayR_end z hst.out)
      have z1 := bs_size z.1
      have HR := Lib.hid (fun wx (h : Below wr.heap.size wr wx) => rRight_any (.slice zA' z.2.2.length zp') z.2.2 wx ((((HW.out.below hbel (Nat.le_refl _)).more hbel.size).step h)) HFO.out)
      have HBR := Lib.hid (below_via HB.out hbel)
      have i1 : ¬ (z.2.1.length : Int) < (z.2.1.length : Int) := by omega
      clear hst
      by_cases q1 : 1 ≤ z.1.length
      case neg =>
        have a1 : decide (1 ≤ ((bs z.1).size : Int)) = false := decide_eq_false (by omega)
        have a2 : decide (1 ≤ (z.1.length : Int)) = false := decide_eq_false (by omega)
        have HFF : Hid (Rc.mayR z = false) := Lib.hid (by rw [HE.out, decide_eq_false (by omega : ¬ (1 ≤ z.1.length ∧ z.1.length ≤ 60))]; rfl)
        clear HE q1 z1
        go_wp2_with fail
        go_ret
        exact ⟨ret_bool HFF.out.symm, HBR.out⟩
      have a1 : decide (1 ≤ ((bs z.1).size : Int)) = true := decide_eq_true (by omega)
      have a2 : decide (1 ≤ (z.1.length : Int)) = true := decide_eq_true (by omega)
      by_cases q2 : z.1.length ≤ 60
      case neg =>
        have b1 : decide (((bs z.1).size : Int) ≤ 60) = false := decide_eq_false (by omega)
        have b2 : decide ((z.1.length : Int) ≤ 60) = false := decide_eq_false (by omega)
        have b3 : decide (z.1.length ≤ 60) = false := decide_eq_false (by omega)
        have HFF : Hid (Rc.mayR z = false) := Lib.hid (by rw [HE.out, decide_eq_false (by omega : ¬ (1 ≤ z.1.length ∧ z.1.length ≤ 60))]; rfl)
        clear HE q1 q2 z1
        go_wp2_with fail
        go_ret
        exact ⟨ret_bool HFF.out.symm, HBR.out⟩
      have b1 : decide (((bs z.1).size : Int) ≤ 60) = true := decide_eq_true (by omega)
      have b2 : decide ((z.1.length : Int) ≤ 60) = true := decide_eq_true (by omega)
      have b3 : decide (z.1.length ≤ 60) = true := decide_eq_true (by omega)
      by_cases q3 : z.2.1.length ≤ 40
      case neg =>
        have d1 : decide ((z.2.1.length : Int) ≤ 40) = false := decide_eq_false (by omega)
        have d2 : decide (z.2.1.length ≤ 40) = false := decide_eq_false (by omega)
        have HFF : Hid (Rc.mayR z = false) := Lib.hid (by rw [HE.out, decide_eq_false q3]; simp)
        clear HE q1 q2 q3 z1
        go_wp2_with fail
        go_ret
        exact ⟨ret_bool HFF.out.symm, HBR.out⟩
      have d1 : decide ((z.2.1.length : Int) ≤ 40) = true := decide_eq_true (by omega)
      have d2 : decide (z.2.1.length ≤ 40) = true := decide_eq_true (by omega)
      have HFF : Hid (Rc.mayR z = Wr.right z.2.2) := Lib.hid (by rw [HE.out, decide_eq_true (⟨q1, q2⟩ : 1 ≤ z.1.length ∧ z.1.length ≤ 60), decide_eq_true q3]; rfl)
      clear HE q1 q2 q3 z1
      generalize Wr.right z.2.2 = q at *
      go_wp2_with (go_at_call 40; refine (HR.out _ (Below.refl _ _)).mono ?_; rintro e w2 ⟨rfl, nq, rfl⟩)
      go_ret
      exact ⟨ret_bool HFF.out.symm, below_via HBR.out (below_of_drewN _)⟩
end Go.Proofs.YtiogmegdkfnkkaaGreatDoor
