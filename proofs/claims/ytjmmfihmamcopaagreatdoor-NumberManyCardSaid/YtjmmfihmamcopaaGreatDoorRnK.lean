/- stetref11.Number. -/
import Derived.Test.YtjmmfihmamcopaaGreatDoorRnJ
import Derived.Test.YtjmmfihmamcopaaGreatDoorNb2
namespace Go.Proofs.YtjmmfihmamcopaaGreatDoor
open Go.RowKit Tx Nb

/-- What the reference numbers, as it lies. -/
def RNumPost (w : World) (s : St) (e : Ending) (w' : World) : Prop :=
  ∃ v : Nat → Value, e = .returned (.agg #[v 0, v 1, v 2, v 3, v 4, v 5, v 6, v 7, v 8, v 9]) ∧ Ow w.heap.size w' [] v (12 + s.blocks.length) (rdesc s v) ∧ Below w.heap.size w w'
theorem rinit_is (w : World) (k : RCst) (o1 o2 : Obj) (hr : k.res = [(w.heap.size + 1, o2)]) : Ri w.heap.size w (((w.alloc o1).alloc o2).alloc (RBlk (fun _ => .slice none 0 0) k Nb.init.c)) (w.heap.size + 2) k Nb.init := by
  have s2 : ((w.alloc o1).alloc o2).heap.size = w.heap.size + 2 := by simp
  have s1 : (w.alloc o1).heap.size = w.heap.size + 1 := by simp
  have b3 : Below ((w.alloc o1).alloc o2).heap.size ((w.alloc o1).alloc o2) (((w.alloc o1).alloc o2).alloc (RBlk (fun _ => .slice none 0 0) k Nb.init.c)) := (Below.refl _ _).alloc (Nat.le_refl _) _
  refine ⟨fun _ => .slice none 0 0, by simp; omega, (((Below.refl w.heap.size w).alloc (Nat.le_refl _) _).alloc (by simp) _).alloc (by simp; omega) _, by omega, by simp [Nb.init], ?_, ⟨fun i _ => ?_, fun i j _ _ _ m h => (by cases h), fun i _ m h => (by cases h)⟩, fun p hp => ?_⟩
  · have := heap_alloc_new ((w.alloc o1).alloc o2) (RBlk (fun _ => .slice none 0 0) k Nb.init.c)
    rw [s2] at this
    exact this
  · have key : ∀ i, (rdesc Nb.init (fun _ => .slice none 0 0) i).n = 0 ∧ (rdesc Nb.init (fun _ => .slice none 0 0) i).ys = [] := fun i => by
      rcases i with _ | _ | _ | _ | _ | _ | _ | _ | _ | _ | _ | _ | i <;> exact ⟨rfl, rfl⟩
    unfold Desc.Is
    rw [(key i).1, (key i).2]
    exact World.ownsRow_nil _ _ _ _
  · rw [hr] at hp
    simp only [List.mem_singleton] at hp
    subst hp
    have h1 := heap_alloc_new (w.alloc o1) o2
    rw [s1] at h1
    exact ⟨(b3.block _ (by rw [s2]; omega)).trans h1, by simp⟩
set_option maxRecDepth 100000 in
set_option maxHeartbeats 32000000 in
theorem rnumber_any {w : World} {E : Env} (vl oL oH oC oB vb vi : Value) (l : List It) (hr : RowC 2 itF w w.heap.size vl l) (hl : l.length ≤ 600) (hx : ∀ x ∈ l, x.s.length ≤ 100)
    (hE : REnv w.heap.size w ⟨oL, oH, oC, oB, []⟩ vb vi E) (hoC : ∃ A n c, oC = .slice A n c) (hoB : ∃ A n c, oB = .slice A n c) :
    Calls Tryz.prog 11 #[vl, .agg #[oL, oH, oC, oB], vb, vi] w (RNumPost w (run E l)) := by
  obtain ⟨A, c, rfl, h1, h2, h3⟩ := hr.shape
  have HC := Lib.hid h3
  have HX := Lib.hid hx
  obtain ⟨A1, a1, e1, -⟩ := hE.lb.shape
  obtain ⟨A2, a2, e2, -⟩ := hE.hd.shape
  obtain ⟨A3, a3, e3, -⟩ := hE.bb.shape
  obtain ⟨A4, a4, e4, -⟩ := hE.ind.shape
  obtain ⟨A5, n5, a5, rfl⟩ := hoC
  obtain ⟨A6, n6, a6, rfl⟩ := hoB
  simp only at e1 e2 e3 e4
  subst e1 e2 e3 e4
  have HE := Lib.hid hE
  clear hr h3 hx hE
  go_enter Tryz.func11, Tryz.ntmps11
  go_wp2_with fail
  go_loopw [10] (fun i wr => ∃ j : Nat, j ≤ l.length ∧ i = .int .i64 j ∧ Ri w.heap.size w wr (w.heap.size + 2) ⟨.slice A1 E.labels.length a1, .slice A2 E.heads.length a2, .slice A5 n5 a5, .slice A6 n6 a6, [(w.heap.size + 1, (.cells #[.slice none 0 0, .slice none 0 0, .slice none 0 0, .slice none 0 0, .slice none 0 0, .slice none 0 0, .slice none 0 0, .slice none 0 0, .slice none 0 0, .slice none 0 0] 48 (0, 0)))]⟩ (run E (l.take j))) (fun i _ => l.length - (RowKit.intOf i).toNat)
  case atStart => exact ⟨0, Nat.zero_le _, rfl, rinit_is w ⟨.slice A1 E.labels.length a1, .slice A2 E.heads.length a2, .slice A5 n5 a5, .slice A6 n6 a6, [(w.heap.size + 1, (.cells #[.slice none 0 0, .slice none 0 0, .slice none 0 0, .slice none 0 0, .slice none 0 0, .slice none 0 0, .slice none 0 0, .slice none 0 0, .slice none 0 0, .slice none 0 0] 48 (0, 0)))]⟩ _ (.cells #[.slice none 0 0, .slice none 0 0, .slice none 0 0, .slice none 0 0, .slice none 0 0, .slice none 0 0, .slice none 0 0, .slice none 0 0, .slice none 0 0, .slice none 0 0] 48 (0, 0)) rfl⟩
  case round =>
    obtain ⟨j, hj, rfl, hI⟩ := hrel
    by_cases hjt : j < l.length
    · have hi : (j : Int) < (l.length : Int) := by omega
      have hi0 : (0 : Int) ≤ (j : Int) := by omega
      obtain ⟨b, off, rfl, hbl, hc⟩ := HC.out (by intro e; rw [e] at hjt; simp at hjt)
      have c0 : wr.cell? ⟨b, off + j * 2, none⟩ = some (.int .i64 l[j].kind) := (hI.bel.cell (p := ⟨b, off + j * 2, none⟩) hbl).trans (hc j hjt 0 _ rfl)
      have c1 : wr.cell? ⟨b, off + j * 2 + 1, none⟩ = some (vs l[j].s) := (hI.bel.cell (p := ⟨b, off + j * 2 + 1, none⟩) hbl).trans (hc j hjt 1 _ rfl)
      obtain ⟨hb, hv⟩ := run_bd HE.out.ok (l.take j) (fun x hx => HX.out x (List.mem_of_mem_take hx))
      have hbT := hb.mono (show 600 + 1000 * (l.take j).length ≤ 600 + 1000 * j by simp; omega)
      have HON := Lib.hid (rone_any hI hv (600 + 1000 * j) (by omega) (by omega) hbT (HE.out.res (R := [(w.heap.size + 1, (.cells #[.slice none 0 0, .slice none 0 0, .slice none 0 0, .slice none 0 0, .slice none 0 0, .slice none 0 0, .slice none 0 0, .slice none 0 0, .slice none 0 0, .slice none 0 0] 48 (0, 0)))])) l[j] (HX.out _ (List.getElem_mem hjt)))
      have HT : Hid (run E (l.take (j + 1)) = one E (run E (l.take j)) l[j]) := Lib.hid (by rw [List.take_succ_eq_append_getElem hjt, run, List.foldl_append]; rfl)
      generalize l[j] = x at *
      clear hc hI hb hv hbT hjt
      go_wp2_with fail
      refine HON.out.mono ?_
      rintro e w5 ⟨rfl, H5⟩
      have HK5 := Lib.hid H5
      clear H5
      go_wp2_with fail
      go_roundw
      case rel => exact ⟨j + 1, by omega, by go_num, by rw [HT.out]; exact HK5.out⟩
      case measure => simp [RowKit.intOf]; omega
    · obtain rfl : j = l.length := by omega
      have hi : ¬ (l.length : Int) < (l.length : Int) := by omega
      rw [List.take_length] at hI
      obtain ⟨v, hv⟩ := hI
      have HV := Lib.hid hv
      have hz := (hv.res (w.heap.size + 1, (.cells #[.slice none 0 0, .slice none 0 0, .slice none 0 0, .slice none 0 0, .slice none 0 0, .slice none 0 0, .slice none 0 0, .slice none 0 0, .slice none 0 0, .slice none 0 0] 48 (0, 0))) (by simp)).1
      have HZ := Lib.hid hz
      obtain ⟨B0, b0, hv0⟩ := own_slice (hv.ow.own 0 (by omega))
      have y0 : wr.cell? ⟨w.heap.size + 1 + 1, 0, none⟩ = some (.slice B0 (rdesc (run E l) v 0).n b0) := (hv.cell 0).trans (by rw [← hv0]; rfl)
      have HV0 := Lib.hid hv0
      generalize (rdesc (run E l) v 0).n = n0' at *
      obtain ⟨B1, b1, hv1⟩ := own_slice (hv.ow.own 1 (by omega))
      have y1 : wr.cell? ⟨w.heap.size + 1 + 1, 1, none⟩ = some (.slice B1 (rdesc (run E l) v 1).n b1) := (hv.cell 1).trans (by rw [← hv1]; rfl)
      have HV1 := Lib.hid hv1
      generalize (rdesc (run E l) v 1).n = n1' at *
      obtain ⟨B2, b2, hv2⟩ := own_slice (hv.ow.own 2 (by omega))
      have y2 : wr.cell? ⟨w.heap.size + 1 + 1, 2, none⟩ = some (.slice B2 (rdesc (run E l) v 2).n b2) := (hv.cell 2).trans (by rw [← hv2]; rfl)
      have HV2 := Lib.hid hv2
      generalize (rdesc (run E l) v 2).n = n2' at *
      obtain ⟨B3, b3, hv3⟩ := own_slice (hv.ow.own 3 (by omega))
      have y3 : wr.cell? ⟨w.heap.size + 1 + 1, 3, none⟩ = some (.slice B3 (rdesc (run E l) v 3).n b3) := (hv.cell 3).trans (by rw [← hv3]; rfl)
      have HV3 := Lib.hid hv3
      generalize (rdesc (run E l) v 3).n = n3' at *
      obtain ⟨B4, b4, hv4⟩ := own_slice (hv.ow.own 4 (by omega))
      have y4 : wr.cell? ⟨w.heap.size + 1 + 1, 4, none⟩ = some (.slice B4 (rdesc (run E l) v 4).n b4) := (hv.cell 4).trans (by rw [← hv4]; rfl)
      have HV4 := Lib.hid hv4
      generalize (rdesc (run E l) v 4).n = n4' at *
      obtain ⟨B5, b5, hv5⟩ := own_slice (hv.ow.own 5 (by omega))
      have y5 : wr.cell? ⟨w.heap.size + 1 + 1, 5, none⟩ = some (.slice B5 (rdesc (run E l) v 5).n b5) := (hv.cell 5).trans (by rw [← hv5]; rfl)
      have HV5 := Lib.hid hv5
      generalize (rdesc (run E l) v 5).n = n5' at *
      obtain ⟨B6, b6, hv6⟩ := own_slice (hv.ow.own 6 (by omega))
      have y6 : wr.cell? ⟨w.heap.size + 1 + 1, 6, none⟩ = some (.slice B6 (rdesc (run E l) v 6).n b6) := (hv.cell 6).trans (by rw [← hv6]; rfl)
      have HV6 := Lib.hid hv6
      generalize (rdesc (run E l) v 6).n = n6' at *
      obtain ⟨B7, b7, hv7⟩ := own_slice (hv.ow.own 7 (by omega))
      have y7 : wr.cell? ⟨w.heap.size + 1 + 1, 7, none⟩ = some (.slice B7 (rdesc (run E l) v 7).n b7) := (hv.cell 7).trans (by rw [← hv7]; rfl)
      have HV7 := Lib.hid hv7
      generalize (rdesc (run E l) v 7).n = n7' at *
      obtain ⟨B8, b8, hv8⟩ := own_slice (hv.ow.own 8 (by omega))
      have y8 : wr.cell? ⟨w.heap.size + 1 + 1, 8, none⟩ = some (.slice B8 (rdesc (run E l) v 8).n b8) := (hv.cell 8).trans (by rw [← hv8]; rfl)
      have HV8 := Lib.hid hv8
      generalize (rdesc (run E l) v 8).n = n8' at *
      obtain ⟨B9, b9, hv9⟩ := own_slice (hv.ow.own 9 (by omega))
      have y9 : wr.cell? ⟨w.heap.size + 1 + 1, 9, none⟩ = some (.slice B9 (rdesc (run E l) v 9).n b9) := (hv.cell 9).trans (by rw [← hv9]; rfl)
      have HV9 := Lib.hid hv9
      generalize (rdesc (run E l) v 9).n = n9' at *
      have d0 : wr.cell? ⟨w.heap.size + 1, 0, none⟩ = some (.slice none 0 0) := by rw [Lib.cell_of_heap hz]; rfl
      have f0 := Lib.frozen_of_heap hz 0
      have d1 : wr.cell? ⟨w.heap.size + 1, 1, none⟩ = some (.slice none 0 0) := by rw [Lib.cell_of_heap hz]; rfl
      have f1 := Lib.frozen_of_heap hz 1
      have d2 : wr.cell? ⟨w.heap.size + 1, 2, none⟩ = some (.slice none 0 0) := by rw [Lib.cell_of_heap hz]; rfl
      have f2 := Lib.frozen_of_heap hz 2
      have d3 : wr.cell? ⟨w.heap.size + 1, 3, none⟩ = some (.slice none 0 0) := by rw [Lib.cell_of_heap hz]; rfl
      have f3 := Lib.frozen_of_heap hz 3
      have d4 : wr.cell? ⟨w.heap.size + 1, 4, none⟩ = some (.slice none 0 0) := by rw [Lib.cell_of_heap hz]; rfl
      have f4 := Lib.frozen_of_heap hz 4
      have d5 : wr.cell? ⟨w.heap.size + 1, 5, none⟩ = some (.slice none 0 0) := by rw [Lib.cell_of_heap hz]; rfl
      have f5 := Lib.frozen_of_heap hz 5
      have d6 : wr.cell? ⟨w.heap.size + 1, 6, none⟩ = some (.slice none 0 0) := by rw [Lib.cell_of_heap hz]; rfl
      have f6 := Lib.frozen_of_heap hz 6
      have d7 : wr.cell? ⟨w.heap.size + 1, 7, none⟩ = some (.slice none 0 0) := by rw [Lib.cell_of_heap hz]; rfl
      have f7 := Lib.frozen_of_heap hz 7
      have d8 : wr.cell? ⟨w.heap.size + 1, 8, none⟩ = some (.slice none 0 0) := by rw [Lib.cell_of_heap hz]; rfl
      have f8 := Lib.frozen_of_heap hz 8
      have d9 : wr.cell? ⟨w.heap.size + 1, 9, none⟩ = some (.slice none 0 0) := by rw [Lib.cell_of_heap hz]; rfl
      have f9 := Lib.frozen_of_heap hz 9
      clear hv hz hv0 hv1 hv2 hv3 hv4 hv5 hv6 hv7 hv8 hv9
      go_wp2_with fail
      have hg2 := ten_set HZ.out (.slice B0 n0' b0) (.slice B1 n1' b1) (.slice B2 n2' b2) (.slice B3 n3' b3) (.slice B4 n4' b4) (.slice B5 n5' b5) (.slice B6 n6' b6) (.slice B7 n7' b7) (.slice B8 n8' b8) (.slice B9 n9' b9)
      have e0 := Lib.cell_of_heap hg2 0
      have e1 := Lib.cell_of_heap hg2 1
      have e2 := Lib.cell_of_heap hg2 2
      have e3 := Lib.cell_of_heap hg2 3
      have e4 := Lib.cell_of_heap hg2 4
      have e5 := Lib.cell_of_heap hg2 5
      have e6 := Lib.cell_of_heap hg2 6
      have e7 := Lib.cell_of_heap hg2 7
      have e8 := Lib.cell_of_heap hg2 8
      have e9 := Lib.cell_of_heap hg2 9
      simp only [List.getElem?_toArray, List.getElem?_cons_succ, List.getElem?_cons_zero] at e0 e1 e2 e3 e4 e5 e6 e7 e8 e9
      refine bodyPost_ret (v := .agg #[.slice B0 n0' b0, .slice B1 n1' b1, .slice B2 n2' b2, .slice B3 n3' b3, .slice B4 n4' b4, .slice B5 n5' b5, .slice B6 n6' b6, .slice B7 n7' b7, .slice B8 n8' b8, .slice B9 n9' b9]) (by
        simp [results, Tryz.f11, go_sem, e0, e1, e2, e3, e4, e5, e6, e7, e8, e9]) rfl ⟨v, by rw [HV0.out, HV1.out, HV2.out, HV3.out, HV4.out, HV5.out, HV6.out, HV7.out, HV8.out, HV9.out], ?_, ten_below HV.out.bel (by omega) _ _ _ _ _ _ _ _ _ _⟩
      have h9 := HV.out.ow.same (w' := _) (fun j _ hj => ten_other (w := wr) (g := w.heap.size + 1) (fun e => hj (by rw [e]; simp [RCst.X])) (.slice B0 n0' b0) (.slice B1 n1' b1) (.slice B2 n2' b2) (.slice B3 n3' b3) (.slice B4 n4' b4) (.slice B5 n5' b5) (.slice B6 n6' b6) (.slice B7 n7' b7) (.slice B8 n8' b8) (.slice B9 n9' b9))
      exact ⟨h9.own, h9.dis, fun i hi j hj hx => by cases hx⟩
end Go.Proofs.YtjmmfihmamcopaaGreatDoor
