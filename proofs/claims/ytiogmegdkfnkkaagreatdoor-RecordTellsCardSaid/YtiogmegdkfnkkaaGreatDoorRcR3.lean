/- The reference's text. -/
import Derived.Test.YtiogmegdkfnkkaaGreatDoorRcR2
import Derived.Test.YtiogmegdkfnkkaaGreatDoorQ9
import Derived.Test.YtiogmegdkfnkkaaGreatDoorQ10
namespace Go.Proofs.YtiogmegdkfnkkaaGreatDoor
open Go.RowKit Tx

set_option maxRecDepth 100000 in
set_option maxHeartbeats 8000000 in
theorem rtext_any (rz : Raw) (z : Rc.Rec) (w : World) (hz : RecIs w w.heap.size rz z) (hm : Rc.mayR z = true) :
    Calls Tryz.prog 17 #[.agg #[.string (bs rz.1), rz.2.1, rz.2.2]] w fun e w' => e = .returned (vs (Rc.text z)) ∧ Below w.heap.size w w' := by
  obtain ⟨zA, zp, zA', zp', rfl⟩ := hz.rows
  simp only
  obtain ⟨_, _, e1, _, _, h3⟩ := hz.reads.shape
  simp only at e1
  injection e1 with e1 _ e1'
  subst e1 e1'
  have H3 := Lib.hid h3
  have HW := Lib.hid hz.writes
  obtain ⟨t1, t2, t3, t4⟩ := Rc.text_parts hm
  have HSK := Lib.hid (Rc.mayR_ok hm).1
  clear h3 hz hm
  have hb0 : Below w.heap.size w (w.alloc (.cells #[.string (bs z.1), .slice zA z.2.1.length zp, .slice zA' z.2.2.length zp'] 52)) := (Below.refl _ _).alloc (Nat.le_refl _) _
  have hz0 : (w.alloc (.cells #[.string (bs z.1), .slice zA z.2.1.length zp, .slice zA' z.2.2.length zp'] 52)).heap[w.heap.size]? = some (.cells #[.string (bs z.1), .slice zA z.2.1.length zp, .slice zA' z.2.2.length zp'] 52 (0, 0)) := heap_alloc_new _ _
  go_enter Tryz.func17, Tryz.ntmps17
  go_wp2_with fail
  go_loopw [3, 4] (fun s i wr => ∃ k : Nat, k ≤ z.2.1.length ∧ i = .int .i64 k ∧ s = vs (Rc.readsT (z.2.1.take k)) ∧ Below (w.heap.size + 1) (w.alloc (.cells #[.string (bs z.1), .slice zA z.2.1.length zp, .slice zA' z.2.2.length zp'] 52)) wr) (fun _ i _ => z.2.1.length - (RowKit.intOf i).toNat)
  case atStart => exact ⟨0, Nat.zero_le _, rfl, rfl, Below.refl _ _⟩
  case round =>
    obtain ⟨k, hk, rfl, rfl, hbel⟩ := hrel
    have hle := hbel.size
    rw [show (w.alloc (.cells #[.string (bs z.1), .slice zA z.2.1.length zp, .slice zA' z.2.2.length zp'] 52)).heap.size = w.heap.size + 1 by simp] at hle
    have hbw := hb0.trans (hbel.mono (Nat.le_succ _))
    have hzr := (hbel.block w.heap.size (by omega)).trans hz0
    by_cases hlt : k < z.2.1.length
    · obtain ⟨b, off, rfl, hbl, hcc⟩ := H3.out (by intro e; rw [e] at hlt; simp at hlt)
      obtain ⟨k1, k2, k3⟩ := sf_cells (fun i u hu => (hbw.cell (p := ⟨b, off + k * 3 + i, none⟩) hbl).trans (hcc k hlt i u hu))
      have hrl := readsT_le z.2.1 (k + 1)
      have HRT := Lib.hid (readsT_take z.2.1 k hlt)
      rw [HRT.out] at hrl
      have hsl := Rc.seenOk_len (HSK.out _ (List.getElem_mem hlt))
      clear hcc
      generalize z.2.1[k] = r at *
      have HP1 := Lib.hid (rPut_any r.1 wr (by omega))
      have HP2 := Lib.hid (fun wx => rPut_any (Rc.state r) wx (by omega))
      have HPX : Hid (Rc.state r = if r.2.1 then 43 :: r.2.2 else [45]) := Lib.hid rfl
      have HHC := Lib.hid (fun wx (hb : Below wr.heap.size wr wx) => (show (wx.cell? ⟨w.heap.size, 1, none⟩ = some (.slice (some ⟨b, off, none⟩) z.2.1.length zp)) from (hb.cell (p := ⟨w.heap.size, 1, none⟩) (show w.heap.size < wr.heap.size by omega)).trans (cells3 hzr).2.1))
      obtain ⟨g0, g1, g2, _, _, _⟩ := cells3 hzr
      obtain ⟨r1, r2, r3⟩ := r
      simp only at k1 k2 k3 HP1 HP2 HPX HRT hrl hsl
      have i0 : (0 : Int) ≤ (k : Int) := by omega
      have i1 : (k : Int) < (z.2.1.length : Int) := by omega
      have hlen3 : r2 = true → r3.length ≤ 4001 := fun h => by
        have := hsl.2
        rw [HPX.out, h] at this
        simp at this
        omega
      generalize Wr.put r1 = pn at *
      generalize Wr.put (Rc.state (r1, r2, r3)) = ps at *
      generalize hacc : Rc.readsT (z.2.1.take k) = acc at *
      rw [List.length_append, List.length_append] at hrl
      obtain ⟨T1, hT1⟩ : ∃ T, T = pn ++ ps := ⟨_, rfl⟩
      obtain ⟨T2, hT2⟩ : ∃ T, T = acc ++ T1 := ⟨_, rfl⟩
      have o1 : bs pn ++ bs ps = bs T1 := by rw [hT1, bs_append]
      have o2 : bs acc ++ bs T1 = bs T2 := by rw [hT2, bs_append]
      have s1 : (bs pn).size = pn.length := bs_size _
      have s2 : (bs ps).size = ps.length := bs_size _
      have s3 : (bs T1).size = pn.length + ps.length := by rw [bs_size, hT1]; simp
      have s4 : (bs acc).size = acc.length := bs_size _
      have q1 : pn.length ≤ 200000 := by omega
      have q2 : ps.length ≤ 200000 := by omega
      have q3 : acc.length ≤ 200000 := by omega
      have HTT : Hid (T2 = Rc.readsT (z.2.1.take (k + 1))) := Lib.hid (by rw [HRT.out, hT2, hT1])
      clear hT1 hT2 hrl hacc
      cases r2 with
      | true =>
        have hl3 := hlen3 rfl
        have hx : Rc.state (r1, true, r3) = 43 :: r3 := rfl
        rw [hx] at HP2
        have o3 : (⟨#[43]⟩ : ByteArray) ++ bs r3 = bs (43 :: r3) := by show bs [43] ++ bs r3 = _; rw [bs_append]; rfl
        have s5 : (bs r3).size = r3.length := bs_size _
        clear hx HPX hlen3 hsl
        go_wp2_with (first
          | (go_at_call 16; have y := hb2; refine (HP2.out _).mono ?_; rintro e w3 ⟨rfl, hb3⟩)
          | (go_at_call 16; refine HP1.out.mono ?_; rintro e w2 ⟨rfl, hb2⟩))
        go_roundw
        case rel => exact ⟨k + 1, by omega, by go_num, by rw [← HTT.out], hbel.trans ((hb2.mono hle).trans (hb3.mono (Nat.le_trans hle hb2.size)))⟩
        case measure => simp [RowKit.intOf]; omega
      | false =>
        have hx : Rc.state (r1, false, r3) = [45] := rfl
        rw [hx] at HP2
        clear hx HPX hlen3 hsl
        go_wp2_with (first
          | (go_at_call 16; have y := hb2; refine (HP2.out _).mono ?_; rintro e w3 ⟨rfl, hb3⟩)
          | (go_at_call 16; refine HP1.out.mono ?_; rintro e w2 ⟨rfl, hb2⟩))
        go_roundw
        case rel => exact ⟨k + 1, by omega, by go_num, by rw [← HTT.out], hbel.trans ((hb2.mono hle).trans (hb3.mono (Nat.le_trans hle hb2.size)))⟩
        case measure => simp [RowKit.intOf]; omega
    · obtain rfl : k = z.2.1.length := by omega
      rw [List.take_length]
      obtain ⟨c0, c1, c2, _, _, _⟩ := cells3 hzr
      have hlt0 : w.heap.size < wr.heap.size := by omega
      have HS := Lib.hid (fun wx (hb : Below wr.heap.size wr wx) => (show wx.cell? ⟨w.heap.size, 0, none⟩ = some (.string (bs z.1)) ∧ wx.cell? ⟨w.heap.size, 2, none⟩ = some (.slice zA' z.2.2.length zp') from ⟨(hb.cell (p := ⟨w.heap.size, 0, none⟩) hlt0).trans c0, (hb.cell (p := ⟨w.heap.size, 2, none⟩) hlt0).trans c2⟩))
      have HX := Lib.hid (fun wx (hb : Below wr.heap.size wr wx) => rPut_any z.1 wx (by omega))
      have HY := Lib.hid (fun wx (hb : Below wr.heap.size wr wx) => rPut_any (Rc.readsT z.2.1) wx (by omega))
      have HFI := Lib.hid (fun wx (hb : Below wr.heap.size wr wx) => rFiles_any (.slice zA' z.2.2.length zp') z.2.2 wx ((((HW.out.below hbw (Nat.le_refl _)).more hbw.size).step hb)) (by omega))
      have HZ := Lib.hid (fun wx (hb : Below wr.heap.size wr wx) => rPut_any (Wr.files z.2.2) wx (by omega))
      have ht : (Rc.text z).length = (Wr.put z.1).length + ((Wr.put (Rc.readsT z.2.1)).length + (Wr.put (Wr.files z.2.2)).length) := by unfold Rc.text; simp
      have HTX : Hid (Rc.text z = Wr.put z.1 ++ (Wr.put (Rc.readsT z.2.1) ++ Wr.put (Wr.files z.2.2))) := Lib.hid rfl
      generalize Wr.put z.1 = p1 at *
      generalize Wr.put (Rc.readsT z.2.1) = p2 at *
      generalize Wr.put (Wr.files z.2.2) = p3 at *
      generalize Rc.readsT z.2.1 = rt at *
      generalize Wr.files z.2.2 = fs at *
      obtain ⟨T1, hT1⟩ : ∃ T, T = p1 ++ p2 := ⟨_, rfl⟩
      obtain ⟨T2, hT2⟩ : ∃ T, T = T1 ++ p3 := ⟨_, rfl⟩
      have o1 : bs p1 ++ bs p2 = bs T1 := by rw [hT1, bs_append]
      have o2 : bs T1 ++ bs p3 = bs T2 := by rw [hT2, bs_append]
      have u1 : (bs p1).size = p1.length := bs_size _
      have u2 : (bs p2).size = p2.length := bs_size _
      have u3 : (bs T1).size = p1.length + p2.length := by rw [bs_size, hT1]; simp
      have u4 : (bs p3).size = p3.length := bs_size _
      have v1 : ¬ (9223372036854775807 < (bs p1).size + (bs p2).size) := by omega
      have v2 : ¬ (9223372036854775807 < (bs T1).size + (bs p3).size) := by omega
      have HTT : Hid (T2 = Rc.text z) := Lib.hid (by rw [HTX.out, hT2, hT1, List.append_assoc])
      clear hT1 hT2 ht c0 c2 hzr u1 u2 u3 u4
      go_upto_region 9 with fail
      go_region_held3 (fun wx => wx.cell? ⟨w.heap.size, 0, none⟩ = some (.string (bs z.1)) ∧ wx.cell? ⟨w.heap.size, 2, none⟩ = some (.slice zA' z.2.2.length zp')) (first
          | (exact HS.out _ j4) | (exact HS.out _ j3) | (exact HS.out _ j2) | (exact HS.out _ j1)
          | (exact HS.out _ (Below.refl _ _).drew)
          | (exact HS.out _ (Below.refl _ _))) (first
        | (go_at_call 16; have y9 := j3; refine (HZ.out _ j3).mono ?_; rintro e x4 ⟨rfl, b1⟩; have j4 : Below wr.heap.size wr x4 := below_via j3 b1; clear b1; dsimp only)
        | (go_at_call 33; refine (HFI.out _ j2).mono ?_; rintro e x3 ⟨rfl, b1⟩; have j3 : Below wr.heap.size wr x3 := below_via j2 b1; clear b1; dsimp only)
        | (go_at_call 16; have y9 := j1; refine (HY.out _ j1).mono ?_; rintro e x2 ⟨rfl, b1⟩; have j2 : Below wr.heap.size wr x2 := below_via j1 b1; clear b1; dsimp only)
        | (go_at_call 16; refine (HX.out _ (Below.refl _ _).drew).mono ?_; rintro e x1 ⟨rfl, b1⟩; have j1 : Below wr.heap.size wr x1 := below_via (Below.refl _ _).drew b1; clear b1; dsimp only))
      all_goals (go_wp2_with fail)
      all_goals go_ret
      all_goals exact ⟨by rw [← HTT.out]; rfl, hbw.trans (j4.mono hbw.size)⟩
end Go.Proofs.YtiogmegdkfnkkaaGreatDoor
