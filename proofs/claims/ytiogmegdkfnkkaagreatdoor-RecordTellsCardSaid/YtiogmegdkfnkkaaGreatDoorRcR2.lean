/- The reference's Right. -/
import Derived.Test.YtiogmegdkfnkkaaGreatDoorRcR1
namespace Go.Proofs.YtiogmegdkfnkkaaGreatDoor
open Go.RowKit Tx

theorem any_takeR (ns : List Rc.Rec) (j : Nat) (n : Bs) (h : j < ns.length) : (ns.take (j + 1)).any (fun m => m.1 == n) = ((ns.take j).any (fun m => m.1 == n) || ns[j].1 == n) := by
  rw [List.take_succ_eq_append_getElem h, List.any_append]
  simp
theorem rmay_b {q : Bool} (rz : Raw) (z : Rc.Rec) (w : World) (hz : RecIs w w.heap.size rz z) (hok : RecOk z) (hz1 : z.2.1.length < 1000000) (hq : Rc.mayR z = q) :
    Calls Tryz.prog 24 #[.agg #[.string (bs rz.1), rz.2.1, rz.2.2]] w fun e w' => e = .returned (.bool q) ∧ Below w.heap.size w w' := by
  subst hq
  exact rmay_any rz z w hz hok hz1
set_option maxRecDepth 100000 in
set_option maxHeartbeats 8000000 in
theorem rright_any (v : Value) (l : List Rc.Rec) (w : World) (hr : RowR w w.heap.size v l) (hn : l.length < 1000000) (hok : ∀ x ∈ l, RecOk x ∧ x.2.1.length < 1000000) :
    Calls Tryz.prog 11 #[v] w fun e w' => e = .returned (.bool (Rc.rightR l)) ∧ Below w.heap.size w w' := by
  obtain ⟨A, cap, rfl, c1, c2, c3⟩ := hr.shape
  have HC := Lib.hid c3
  have HOK := Lib.hid hok
  clear c3 hr hok
  go_enter Tryz.func11, Tryz.ntmps11
  go_wp2_with fail
  go_loopw [3] (fun i wr => ∃ k : Nat, k ≤ l.length ∧ i = .int .i64 k ∧ Hid (∀ j < k, Rc.stepR l j = true) ∧ Below w.heap.size w wr) (fun i _ => l.length - (RowKit.intOf i).toNat)
  case atStart => exact ⟨0, Nat.zero_le _, rfl, Lib.hid (fun j h => by omega), Below.refl _ _⟩
  case round =>
    obtain ⟨k, hk, rfl, hst, hbel⟩ := hrel
    by_cases hlt : k < l.length
    · obtain ⟨b, off, rfl, hbl, ⟨x0, r1, r2⟩, ⟨j1, j2, j3⟩, hrec⟩ := HC.out k hlt
      have HCC := Lib.hid (fun j (hj : j < l.length) => show w.cell? ⟨b, off + j * 3, none⟩ = some (.string (bs l[j].1)) from by
        obtain ⟨b', off', e, _, q, ⟨t1, _, _⟩, hq⟩ := HC.out j hj
        injection e with e
        injection e with e1 e2
        subst e1 e2
        rw [t1, hq.rule])
      have HAT := Lib.hid (Rc.stepR_at l k hlt)
      have HNO := Lib.hid (Rc.rightR_no l k hlt)
      have HAN := Lib.hid (fun j (hj : j < l.length) => any_takeR l j l[k].1 hj)
      obtain ⟨o1, o2⟩ := HOK.out _ (List.getElem_mem hlt)
      generalize l[k] = x at *
      obtain ⟨B1, p1, B2, p2, hr3⟩ := hrec.rows
      injection hr3 with e1 e2
      injection e2 with e2 e3
      subst e1 e2 e3
      simp only at j1 j2 j3
      have k1 := (hbel.cell (p := ⟨b, off + k * 3, none⟩) hbl).trans j1
      have k2 := (hbel.cell (p := ⟨b, off + k * 3 + 1, none⟩) hbl).trans j2
      have k3 := (hbel.cell (p := ⟨b, off + k * 3 + 2, none⟩) hbl).trans j3
      have i0 : (0 : Int) ≤ (k : Int) := by omega
      have i1 : (k : Int) < (l.length : Int) := by omega
      have hm := rmay_b (x.1, .slice B1 x.2.1.length p1, .slice B2 x.2.2.length p2) x wr ((hrec.below hbel (Nat.le_refl _)).more hbel.size) o1 o2 rfl
      clear j1 j2 j3 hrec o1 o2
      generalize Rc.mayR x = q at *
      cases q with
      | false =>
        have HFF : Hid (Rc.rightR l = false) := Lib.hid (HNO.out (by rw [HAT.out]; rfl))
        clear HAT HNO
        go_wp2_with fail
        refine hm.mono ?_
        rintro e w1 ⟨rfl, b1⟩
        go_wp2_with fail
        go_ret
        exact ⟨ret_bool HFF.out.symm, below_via hbel b1⟩
      | true =>
        have HA3 : Hid (Rc.stepR l k = !((l.take k).any fun q => q.1 == x.1)) := Lib.hid (by rw [HAT.out]; rfl)
        clear HAT
        go_wp2_with fail
        refine hm.mono ?_
        rintro e w1 ⟨rfl, b1⟩
        have hbel1 := below_via hbel b1
        have k4 := (b1.cell (p := ⟨b, off + k * 3, none⟩) (Nat.lt_of_lt_of_le hbl hbel.size)).trans k1
        have HC1 := Lib.hid (fun j (hj : j < l.length) => (hbel1.cell (p := ⟨b, off + j * 3, none⟩) hbl).trans (HCC.out j hj))
        have HB1 := Lib.hid hbel1
        clear hm k1 k2 k3 HCC b1 hbel hbel1
        go_wp2_with fail
        go_loopw [4] (fun i wx => ∃ j d : Nat, j ≤ k ∧ i = .int .i64 j ∧ Hid (((l.take j).any fun q => q.1 == x.1) = false) ∧ wx = w1.drewN d) (fun i _ => k - (RowKit.intOf i).toNat)
        case atStart => exact ⟨0, 0, Nat.zero_le _, rfl, Lib.hid (by simp), rfl⟩
        case round =>
          obtain ⟨j, d, hj, rfl, hany, rfl⟩ := hrel
          by_cases hjt : j < k
          · have k5 := HC1.out j (by omega)
            have HL := Lib.hid (HAN.out j (by omega))
            rw [hany.out] at HL
            have HYES := Lib.hid (fun (he : (l[j]'(by omega)).1 = x.1) => (show ((l.take k).any fun q => q.1 == x.1) = true from List.any_eq_true.2 ⟨l[j]'(by omega), List.mem_take_iff_getElem.2 ⟨j, by omega, rfl⟩, by simp [he]⟩))
            generalize l[j]'(by omega) = y at *
            have j0 : (0 : Int) ≤ (j : Int) := by omega
            have j1 : (j : Int) < (k : Int) := by omega
            have j2 : (j : Int) < (l.length : Int) := by omega
            by_cases hx : y.1 = x.1
            · have hbe : ((bs y.1).toList == (bs x.1).toList) = true := by rw [hx]; simp
              have HFF : Hid (Rc.rightR l = false) := Lib.hid (HNO.out (by rw [HA3.out, HYES.out hx]; rfl))
              clear hx HA3 HNO
              go_wp2_with fail
              go_quiet (fail)
              go_wp2_with fail
              go_ret
              exact ⟨ret_bool HFF.out.symm, HB1.out.trans ((below_drewN (below_of_drewN _) _))⟩
            · have hbe : ((bs y.1).toList == (bs x.1).toList) = false := by rw [toListB, toListB]; exact beq_eq_false_iff_ne.2 hx
              have HFA : Hid (((l.take (j + 1)).any fun q => q.1 == x.1) = false) := Lib.hid (by rw [HL.out]; simpa using hx)
              clear hx
              go_wp2_with fail
              go_quiet (fail)
              go_wp2_with fail
              go_roundw
              case rel => exact ⟨j + 1, _, by omega, by go_num, HFA, by first | rfl | exact World.drewN_drewN _ _ _⟩
              case measure => simp [RowKit.intOf]; omega
          · obtain rfl : j = k := by omega
            have HOK2 : Hid (Rc.stepR l j = true) := Lib.hid (by rw [HA3.out, hany.out]; rfl)
            go_wp2_with fail
            go_roundw
            case rel => exact ⟨j + 1, by omega, by go_num, Lib.hid (fun i hi => by rcases Nat.lt_or_eq_of_le (Nat.lt_succ_iff.1 hi) with h | rfl; exact hst.out i h; exact HOK2.out), HB1.out.trans (below_of_drewN d)⟩
            case measure => simp [RowKit.intOf]; omega
    · obtain rfl : k = l.length := by omega
      have HE := Lib.hid (Rc.rightR_end l hst.out)
      have i1 : ¬ (l.length : Int) < (l.length : Int) := by omega
      have hd : decide ((l.length : Int) ≤ 12) = decide (l.length ≤ 12) := by rw [decide_eq_decide]; omega
      have HD := Lib.hid hd
      clear hd hst
      go_wp2_with fail
      go_ret
      exact ⟨by rw [HE.out, ← HD.out]; first | rfl | simp, hbel⟩
end Go.Proofs.YtiogmegdkfnkkaaGreatDoor
