/- stetlaw11.cut, stetlaw10.texts. · stetlaw11.Bbl. · stetlaw10.Cut. -/
import Derived.Test.YtjmmfihmamcopaaGreatDoorNbCa
namespace Go.Proofs.YtjmmfihmamcopaaGreatDoor
open Go.RowKit Tx Nb

set_option maxRecDepth 100000 in
set_option maxHeartbeats 16000000 in
theorem cut11_any {w : World} (vl : Value) (l : List Bs) (hr : RowC 1 txF w w.heap.size vl l) (ok : ∀ x ∈ l, x.length ≤ maxLen) :
    Calls Tryz.prog 8 #[vl] w fun e w' => ∃ v, e = .returned v ∧ OwnC 9 1 txF w.heap.size w' v ((l.take 6).map (List.take 60)) ∧ Below w.heap.size w w' := by
  obtain ⟨A, c, rfl, _, hmx, z1⟩ := hr.shape
  have HC := Lib.hid z1
  have OK := Lib.hid ok
  clear z1 hr ok
  go_enter Tryz.func8, Tryz.ntmps8
  go_wp2_with fail
  go_loopw [3, 4] (fun o i wr => ∃ j : Nat, j ≤ l.length ∧ j ≤ 6 ∧ i = .int .i64 j ∧ OwnC 9 1 txF w.heap.size wr o ((l.take j).map (List.take 60)) ∧ Below w.heap.size w wr) (fun _ i _ => l.length - (RowKit.intOf i).toNat)
  case atStart => exact ⟨0, Nat.zero_le _, Nat.zero_le _, rfl, made_empty _ _, (Below.refl _ _).alloc (Nat.le_refl _) _⟩
  case round =>
    obtain ⟨j, hj, hjk, rfl, hown, hbel⟩ := hrel
    have HBEL := Lib.hid hbel
    by_cases hjt : j < l.length
    · have hi : (j : Int) < (l.length : Int) := by omega
      have hi0 : (0 : Int) ≤ (j : Int) := by omega
      by_cases hjk2 : j < 6
      · have hi2 : (j : Int) < (6 : Int) := by omega
        obtain ⟨b, off, rfl, hbl, hc⟩ := HC.out (by intro e; rw [e] at hjt; simp at hjt)
        have x0 : w.cell? ⟨b, off + j, none⟩ = some (.string (bs l[j])) := by simpa using hc j hjt 0 _ rfl
        have hok := OK.out l[j] (List.getElem_mem hjt)
        have HT : Hid (l.take (j + 1) = l.take j ++ [l[j]]) := Lib.hid (List.take_succ_eq_append_getElem hjt)
        generalize l[j] = x at *
        have HSX : Hid (∀ wx, Below w.heap.size w wx → (fun wx : World => wx.cell? ⟨b, off + j, none⟩ = some (.string (bs x))) wx) := Lib.hid (fun wx h => (h.cell (p := ⟨b, off + j, none⟩) hbl).trans x0)
        clear hc x0
        obtain ⟨i0, hi0', hz0, hz1, hz2⟩ := info_parts strInfo
        obtain ⟨B1, n1, b1, rfl⟩ : ∃ A n c, u3 = .slice A n c := by obtain ⟨A, c, e, _⟩ := (hown.rowC txF_len).shape; exact ⟨A, _, c, e⟩
        have HOWN := Lib.hid hown
        clear hown hbel
        have e0 := ext_take x 60
        simp only [show ((60 : Nat) : Int) = 60 from rfl] at e0
        have z0 := bs_size x
        have f0 : (0 : Int) ≤ min ((bs x).size : Int) 60 := by omega
        have g0 : min ((bs x).size : Int) 60 ≤ ((bs x).size : Int) := by omega
        rw [z0] at e0 f0 g0
        go_upto_region 5 with fail
        have hbd : Below wr.heap.size wr (wr.drew.alloc (.cells #[.string (bs (x.take 60))] 9)) := ((Below.refl wr.heap.size wr).drew).alloc (Nat.le_refl _) _
        have HOD := Lib.hid (HOWN.out.below hbd)
        have HBD := Lib.hid hbd
        have HD := Lib.hid (heap_alloc_new wr.drew (.cells #[.string (bs (x.take 60))] 9))
        have HLE : Hid (w.heap.size ≤ (wr.drew.alloc (.cells #[.string (bs (x.take 60))] 9)).heap.size) := Lib.hid (Nat.le_trans HBEL.out.size hbd.size)
        have hS0 : (fun wx : World => wx.cell? ⟨b, off + j, none⟩ = some (.string (bs x))) wr.drew := HSX.out _ (HBEL.out.trans (below_of_drewN 1))
        have hS1 : (fun wx : World => wx.cell? ⟨b, off + j, none⟩ = some (.string (bs x))) (wr.drew.alloc (.cells #[.string (bs (x.take 60))] 9)) := HSX.out _ (HBEL.out.trans (HBD.out.mono HBEL.out.size))
        clear hbd
        refine wp_region_headS 14 (fun wx : World => wx.cell? ⟨b, off + j, none⟩ = some (.string (bs x))) (by kernel_rfl) (by kernel_rfl) ?_
        refine WS_take (i := 0) (v := ?va0) (by simp only [List.getElem?_toArray, List.getElem?_cons_zero]; rfl) (by decide) (by kernel_rfl) (by kernel_rfl) (by intro _ _ _ h; exact h) (Or.inl ⟨by rfl, ?hya0⟩) hS0 ?resta0
        case hya0 =>
          intro wx hx
          have s1 := hx
          go_simp
          try with_reducible rfl
        try simp only [Act.put, List.setIfInBounds_toArray, List.set_cons_zero, List.set_cons_succ]
        refine WS_take (i := 1) (v := ?va1) (by simp only [List.getElem?_toArray, List.getElem?_cons_succ, List.getElem?_cons_zero]; rfl) (by decide) (by kernel_rfl) (by kernel_rfl) (by intro _ _ _ h; exact h) (Or.inl ⟨by rfl, ?hya1⟩) hS0 ?resta1
        case hya1 =>
          intro wx hx
          have s1 := hx
          go_simp
          try with_reducible rfl
        try simp only [Act.put, List.setIfInBounds_toArray, List.set_cons_zero, List.set_cons_succ]
        refine WS_take (i := 2) (v := ?va2) (by simp only [List.getElem?_toArray, List.getElem?_cons_succ, List.getElem?_cons_zero]; rfl) (by decide) (by kernel_rfl) (by kernel_rfl) (by intro _ _ _ h; exact h) (Or.inl ⟨by rfl, ?hya2⟩) hS0 ?resta2
        case hya2 =>
          intro wx hx
          have s1 := hx
          go_simp
          try with_reducible rfl
        try simp only [Act.put, List.setIfInBounds_toArray, List.set_cons_zero, List.set_cons_succ]
        refine WS_take (i := 3) (v := ?va3) (by simp only [List.getElem?_toArray, List.getElem?_cons_succ, List.getElem?_cons_zero]; rfl) (by decide) (by kernel_rfl) (by kernel_rfl) (by intro _ _ _ h; exact h) (Or.inl ⟨by rfl, ?hya3⟩) hS0 ?resta3
        case hya3 =>
          intro wx hx
          have s1 := hx
          go_simp
          try with_reducible rfl
        try simp only [Act.put, List.setIfInBounds_toArray, List.set_cons_zero, List.set_cons_succ]
        refine WS_take (i := 4) (v := ?va4) (by simp only [List.getElem?_toArray, List.getElem?_cons_succ, List.getElem?_cons_zero]; rfl) (by decide) (by kernel_rfl) (by kernel_rfl) (by intro _ _ _ h; exact h) (Or.inl ⟨by rfl, ?hya4⟩) hS0 ?resta4
        case hya4 =>
          intro wx hx
          have s1 := hx
          go_simp
          try with_reducible rfl
        try simp only [Act.put, List.setIfInBounds_toArray, List.set_cons_zero, List.set_cons_succ]
        refine WS_take (i := 5) (v := ?va5) (by simp only [List.getElem?_toArray, List.getElem?_cons_succ, List.getElem?_cons_zero]; rfl) (by decide) (by kernel_rfl) (by kernel_rfl) (by intro _ _ _ h; exact h) (Or.inl ⟨by rfl, ?hya5⟩) hS0 ?resta5
        case hya5 =>
          intro wx hx
          have s1 := hx
          go_simp
          try with_reducible rfl
        try simp only [Act.put, List.setIfInBounds_toArray, List.set_cons_zero, List.set_cons_succ]
        refine WS_take (i := 6) (v := ?va6) (by simp only [List.getElem?_toArray, List.getElem?_cons_succ, List.getElem?_cons_zero]; rfl) (by decide) (by kernel_rfl) (by kernel_rfl) (by intro _ _ _ h; exact h) (Or.inl ⟨by rfl, ?hya6⟩) hS0 ?resta6
        case hya6 =>
          intro wx hx
          have s1 := hx
          go_simp
          try with_reducible rfl
        try simp only [Act.put, List.setIfInBounds_toArray, List.set_cons_zero, List.set_cons_succ]
        refine WS_take (i := 7) (v := ?va7) (by simp only [List.getElem?_toArray, List.getElem?_cons_succ, List.getElem?_cons_zero]; rfl) (by decide) (by kernel_rfl) (by kernel_rfl) (by intro _ _ _ h; exact h) (Or.inl ⟨by rfl, ?hya7⟩) hS0 ?resta7
        case hya7 =>
          intro wx hx
          have s1 := hx
          go_simp
          try with_reducible rfl
        try simp only [Act.put, List.setIfInBounds_toArray, List.set_cons_zero, List.set_cons_succ]
        refine WS_take (i := 8) (v := ?va8) (by simp only [List.getElem?_toArray, List.getElem?_cons_succ, List.getElem?_cons_zero]; rfl) (by decide) (by kernel_rfl) (by kernel_rfl) (by intro _ _ _ h; exact h) (Or.inl ⟨by rfl, ?hya8⟩) hS0 ?resta8
        case hya8 =>
          intro wx hx
          have s1 := hx
          go_simp
          try with_reducible rfl
        try simp only [Act.put, List.setIfInBounds_toArray, List.set_cons_zero, List.set_cons_succ]
        refine WS_take (i := 9) (v := ?va9) (by simp only [List.getElem?_toArray, List.getElem?_cons_succ, List.getElem?_cons_zero]; rfl) (by decide) (by kernel_rfl) (by kernel_rfl) (by intro _ _ _ h; exact h) (Or.inl ⟨by rfl, ?hya9⟩) hS0 ?resta9
        case hya9 =>
          intro wx hx
          have s1 := hx
          go_simp
          try with_reducible rfl
        try simp only [Act.put, List.setIfInBounds_toArray, List.set_cons_zero, List.set_cons_succ]
        refine WS_take (i := 10) (v := ?va10) (by simp only [List.getElem?_toArray, List.getElem?_cons_succ, List.getElem?_cons_zero]; rfl) (by decide) (by kernel_rfl) (by kernel_rfl) (by intro _ _ _ h; exact h) (Or.inl ⟨by rfl, ?hya10⟩) hS0 ?resta10
        case hya10 =>
          intro wx hx
          have s1 := hx
          go_simp
          try with_reducible rfl
        try simp only [Act.put, List.setIfInBounds_toArray, List.set_cons_zero, List.set_cons_succ]
        refine WS_take (i := 11) (v := ?va11) (by simp only [List.getElem?_toArray, List.getElem?_cons_succ, List.getElem?_cons_zero]; rfl) (by decide) (by kernel_rfl) (by kernel_rfl) (by intro _ _ _ h; exact h) (Or.inl ⟨by rfl, ?hya11⟩) hS0 ?resta11
        case hya11 =>
          intro wx hx
          have s1 := hx
          go_simp
          try with_reducible rfl
        try simp only [Act.put, List.setIfInBounds_toArray, List.set_cons_zero, List.set_cons_succ]
        refine WS_one (i := 12) (by simp only [List.getElem?_toArray, List.getElem?_cons_succ, List.getElem?_cons_zero]; rfl) (by decide) (by kernel_rfl) (fun K hK => (if_pos (by kernel_rfl)).mpr ?_)
        go_simp
        refine hK _ _ hS1 ?_
        clear hK K
        try simp only [Act.put, List.setIfInBounds_toArray, List.set_cons_zero, List.set_cons_succ]
        refine WS_one (i := 13) (by simp only [List.getElem?_toArray, List.getElem?_cons_succ, List.getElem?_cons_zero]; rfl) (by decide) (by kernel_rfl) (fun K hK => step_appB (by rfl) (.tmp 16) (.tmp 28) 25 (by rfl) w.heap.size 9 i0 _ 1 16 Tryz.underlying25 hi0' hz0 hz1 hz2 (by rfl) (by decide) (.slice B1 n1 b1) ((l.take j).map (List.take 60)).length (((l.take j).map (List.take 60)).flatMap txF) (txF (x.take 60)) rfl (by simp [txF, vs, Value.oneCell']) (by rfl) wr.drew.heap.size (by rfl) HD.out HOD.out HLE.out (by simp only [maxLen, List.length_map, List.length_take]; omega) (by simp only [List.length_map, List.length_take]; omega) ?_)
        intro v' w' q1 q2 q3
        obtain ⟨A', c', hv'⟩ := own_slice q1
        obtain ⟨A', n', c', rfl⟩ : ∃ A n c, v' = .slice A n c := ⟨_, _, _, hv'⟩
        clear hv'
        have hS2 : (fun wx : World => wx.cell? ⟨b, off + j, none⟩ = some (.string (bs x))) w' := HSX.out _ (((HBEL.out.trans (HBD.out.mono HBEL.out.size))).grown q2 HLE.out (fun k hk => (World.ownsRow.lt HOD.out k hk).1))
        have HQ := Lib.hid (And.intro q1 (And.intro q2 q3))
        refine hK _ _ hS2 ?_
        clear hK K q1 q2 q3 hS2 hS1 hS0
        try simp only [Act.put, List.setIfInBounds_toArray, List.set_cons_zero, List.set_cons_succ]
        refine WS_done (by kernel_rfl) ?_
        simp only [List.drop_succ_cons, List.drop_zero]
        go_wp2_with fail
        go_roundw
        case rel =>
          obtain ⟨q1, q2, q3⟩ := HQ.out
          refine ⟨j + 1, by omega, by omega, by go_num, ?_, ?_⟩
          · rw [HT.out]
            simpa [OwnC] using q1
          · exact ((HBEL.out.trans (HBD.out.mono HBEL.out.size))).grown q2 HLE.out (fun k hk => (World.ownsRow.lt HOD.out k hk).1)
        case measure => simp [RowKit.intOf]; omega
      · obtain rfl : j = 6 := by omega
        have hi2 : ¬ ((6 : Int) : Int) < (6 : Int) := by omega
        have HOWN := Lib.hid hown
        clear hown hbel
        go_wp2_with fail
        go_ret
        exact ⟨u3, rfl, by rw [← List.map_take]; exact HOWN.out, HBEL.out⟩
    · obtain rfl : j = l.length := by omega
      have hi : ¬ (l.length : Int) < (l.length : Int) := by omega
      have HOWN : Hid (OwnC 9 1 txF w.heap.size wr u3 ((l.take 6).map (List.take 60))) := Lib.hid (by rw [List.take_of_length_le hjk]; rw [List.take_length] at hown; exact hown)
      clear hown hbel
      go_wp2_with fail
      go_ret
      exact ⟨u3, rfl, by rw [← List.map_take]; exact HOWN.out, HBEL.out⟩

set_option maxRecDepth 100000 in
set_option maxHeartbeats 16000000 in
theorem texts_any {w : World} (vl : Value) (l : List Bs) (hr : RowC 1 txF w w.heap.size vl l) (ok : ∀ x ∈ l, x.length ≤ maxLen) (k : Nat) (hk : k ≤ 1000) :
    Calls Tryz.prog 16 #[vl, .int .i64 k] w fun e w' => ∃ v, e = .returned v ∧ OwnC 9 1 txF w.heap.size w' v ((l.take k).map (List.take 80)) ∧ Below w.heap.size w w' := by
  obtain ⟨A, c, rfl, _, hmx, z1⟩ := hr.shape
  have HC := Lib.hid z1
  have OK := Lib.hid ok
  clear z1 hr ok
  go_enter Tryz.func16, Tryz.ntmps16
  go_wp2_with fail
  go_loopw [5, 6] (fun o i wr => ∃ j : Nat, j ≤ l.length ∧ j ≤ k ∧ i = .int .i64 j ∧ OwnC 9 1 txF w.heap.size wr o ((l.take j).map (List.take 80)) ∧ Below w.heap.size w wr) (fun _ i _ => l.length - (RowKit.intOf i).toNat)
  case atStart => exact ⟨0, Nat.zero_le _, Nat.zero_le _, rfl, made_empty _ _, (Below.refl _ _).alloc (Nat.le_refl _) _⟩
  case round =>
    obtain ⟨j, hj, hjk, rfl, hown, hbel⟩ := hrel
    have HBEL := Lib.hid hbel
    by_cases hjt : j < l.length
    · have hi : (j : Int) < (l.length : Int) := by omega
      have hi0 : (0 : Int) ≤ (j : Int) := by omega
      by_cases hjk2 : j < k
      · have hi2 : (j : Int) < (k : Int) := by omega
        obtain ⟨b, off, rfl, hbl, hc⟩ := HC.out (by intro e; rw [e] at hjt; simp at hjt)
        have x0 : w.cell? ⟨b, off + j, none⟩ = some (.string (bs l[j])) := by simpa using hc j hjt 0 _ rfl
        have hok := OK.out l[j] (List.getElem_mem hjt)
        have HT : Hid (l.take (j + 1) = l.take j ++ [l[j]]) := Lib.hid (List.take_succ_eq_append_getElem hjt)
        generalize l[j] = x at *
        have HSX : Hid (∀ wx, Below w.heap.size w wx → (fun wx : World => wx.cell? ⟨b, off + j, none⟩ = some (.string (bs x))) wx) := Lib.hid (fun wx h => (h.cell (p := ⟨b, off + j, none⟩) hbl).trans x0)
        clear hc x0
        obtain ⟨i0, hi0', hz0, hz1, hz2⟩ := info_parts strInfo
        obtain ⟨B1, n1, b1, rfl⟩ : ∃ A n c, u5 = .slice A n c := by obtain ⟨A, c, e, _⟩ := (hown.rowC txF_len).shape; exact ⟨A, _, c, e⟩
        have HOWN := Lib.hid hown
        clear hown hbel
        have e0 := ext_take x 80
        simp only [show ((80 : Nat) : Int) = 80 from rfl] at e0
        have z0 := bs_size x
        have f0 : (0 : Int) ≤ min ((bs x).size : Int) 80 := by omega
        have g0 : min ((bs x).size : Int) 80 ≤ ((bs x).size : Int) := by omega
        rw [z0] at e0 f0 g0
        go_upto_region 5 with fail
        have hbd : Below wr.heap.size wr (wr.drew.alloc (.cells #[.string (bs (x.take 80))] 9)) := ((Below.refl wr.heap.size wr).drew).alloc (Nat.le_refl _) _
        have HOD := Lib.hid (HOWN.out.below hbd)
        have HBD := Lib.hid hbd
        have HD := Lib.hid (heap_alloc_new wr.drew (.cells #[.string (bs (x.take 80))] 9))
        have HLE : Hid (w.heap.size ≤ (wr.drew.alloc (.cells #[.string (bs (x.take 80))] 9)).heap.size) := Lib.hid (Nat.le_trans HBEL.out.size hbd.size)
        have hS0 : (fun wx : World => wx.cell? ⟨b, off + j, none⟩ = some (.string (bs x))) wr.drew := HSX.out _ (HBEL.out.trans (below_of_drewN 1))
        have hS1 : (fun wx : World => wx.cell? ⟨b, off + j, none⟩ = some (.string (bs x))) (wr.drew.alloc (.cells #[.string (bs (x.take 80))] 9)) := HSX.out _ (HBEL.out.trans (HBD.out.mono HBEL.out.size))
        clear hbd
        refine wp_region_headS 14 (fun wx : World => wx.cell? ⟨b, off + j, none⟩ = some (.string (bs x))) (by kernel_rfl) (by kernel_rfl) ?_
        refine WS_take (i := 0) (v := ?va0) (by simp only [List.getElem?_toArray, List.getElem?_cons_zero]; rfl) (by decide) (by kernel_rfl) (by kernel_rfl) (by intro _ _ _ h; exact h) (Or.inl ⟨by rfl, ?hya0⟩) hS0 ?resta0
        case hya0 =>
          intro wx hx
          have s1 := hx
          go_simp
          try with_reducible rfl
        try simp only [Act.put, List.setIfInBounds_toArray, List.set_cons_zero, List.set_cons_succ]
        refine WS_take (i := 1) (v := ?va1) (by simp only [List.getElem?_toArray, List.getElem?_cons_succ, List.getElem?_cons_zero]; rfl) (by decide) (by kernel_rfl) (by kernel_rfl) (by intro _ _ _ h; exact h) (Or.inl ⟨by rfl, ?hya1⟩) hS0 ?resta1
        case hya1 =>
          intro wx hx
          have s1 := hx
          go_simp
          try with_reducible rfl
        try simp only [Act.put, List.setIfInBounds_toArray, List.set_cons_zero, List.set_cons_succ]
        refine WS_take (i := 2) (v := ?va2) (by simp only [List.getElem?_toArray, List.getElem?_cons_succ, List.getElem?_cons_zero]; rfl) (by decide) (by kernel_rfl) (by kernel_rfl) (by intro _ _ _ h; exact h) (Or.inl ⟨by rfl, ?hya2⟩) hS0 ?resta2
        case hya2 =>
          intro wx hx
          have s1 := hx
          go_simp
          try with_reducible rfl
        try simp only [Act.put, List.setIfInBounds_toArray, List.set_cons_zero, List.set_cons_succ]
        refine WS_take (i := 3) (v := ?va3) (by simp only [List.getElem?_toArray, List.getElem?_cons_succ, List.getElem?_cons_zero]; rfl) (by decide) (by kernel_rfl) (by kernel_rfl) (by intro _ _ _ h; exact h) (Or.inl ⟨by rfl, ?hya3⟩) hS0 ?resta3
        case hya3 =>
          intro wx hx
          have s1 := hx
          go_simp
          try with_reducible rfl
        try simp only [Act.put, List.setIfInBounds_toArray, List.set_cons_zero, List.set_cons_succ]
        refine WS_take (i := 4) (v := ?va4) (by simp only [List.getElem?_toArray, List.getElem?_cons_succ, List.getElem?_cons_zero]; rfl) (by decide) (by kernel_rfl) (by kernel_rfl) (by intro _ _ _ h; exact h) (Or.inl ⟨by rfl, ?hya4⟩) hS0 ?resta4
        case hya4 =>
          intro wx hx
          have s1 := hx
          go_simp
          try with_reducible rfl
        try simp only [Act.put, List.setIfInBounds_toArray, List.set_cons_zero, List.set_cons_succ]
        refine WS_take (i := 5) (v := ?va5) (by simp only [List.getElem?_toArray, List.getElem?_cons_succ, List.getElem?_cons_zero]; rfl) (by decide) (by kernel_rfl) (by kernel_rfl) (by intro _ _ _ h; exact h) (Or.inl ⟨by rfl, ?hya5⟩) hS0 ?resta5
        case hya5 =>
          intro wx hx
          have s1 := hx
          go_simp
          try with_reducible rfl
        try simp only [Act.put, List.setIfInBounds_toArray, List.set_cons_zero, List.set_cons_succ]
        refine WS_take (i := 6) (v := ?va6) (by simp only [List.getElem?_toArray, List.getElem?_cons_succ, List.getElem?_cons_zero]; rfl) (by decide) (by kernel_rfl) (by kernel_rfl) (by intro _ _ _ h; exact h) (Or.inl ⟨by rfl, ?hya6⟩) hS0 ?resta6
        case hya6 =>
          intro wx hx
          have s1 := hx
          go_simp
          try with_reducible rfl
        try simp only [Act.put, List.setIfInBounds_toArray, List.set_cons_zero, List.set_cons_succ]
        refine WS_take (i := 7) (v := ?va7) (by simp only [List.getElem?_toArray, List.getElem?_cons_succ, List.getElem?_cons_zero]; rfl) (by decide) (by kernel_rfl) (by kernel_rfl) (by intro _ _ _ h; exact h) (Or.inl ⟨by rfl, ?hya7⟩) hS0 ?resta7
        case hya7 =>
          intro wx hx
          have s1 := hx
          go_simp
          try with_reducible rfl
        try simp only [Act.put, List.setIfInBounds_toArray, List.set_cons_zero, List.set_cons_succ]
        refine WS_take (i := 8) (v := ?va8) (by simp only [List.getElem?_toArray, List.getElem?_cons_succ, List.getElem?_cons_zero]; rfl) (by decide) (by kernel_rfl) (by kernel_rfl) (by intro _ _ _ h; exact h) (Or.inl ⟨by rfl, ?hya8⟩) hS0 ?resta8
        case hya8 =>
          intro wx hx
          have s1 := hx
          go_simp
          try with_reducible rfl
        try simp only [Act.put, List.setIfInBounds_toArray, List.set_cons_zero, List.set_cons_succ]
        refine WS_take (i := 9) (v := ?va9) (by simp only [List.getElem?_toArray, List.getElem?_cons_succ, List.getElem?_cons_zero]; rfl) (by decide) (by kernel_rfl) (by kernel_rfl) (by intro _ _ _ h; exact h) (Or.inl ⟨by rfl, ?hya9⟩) hS0 ?resta9
        case hya9 =>
          intro wx hx
          have s1 := hx
          go_simp
          try with_reducible rfl
        try simp only [Act.put, List.setIfInBounds_toArray, List.set_cons_zero, List.set_cons_succ]
        refine WS_take (i := 10) (v := ?va10) (by simp only [List.getElem?_toArray, List.getElem?_cons_succ, List.getElem?_cons_zero]; rfl) (by decide) (by kernel_rfl) (by kernel_rfl) (by intro _ _ _ h; exact h) (Or.inl ⟨by rfl, ?hya10⟩) hS0 ?resta10
        case hya10 =>
          intro wx hx
          have s1 := hx
          go_simp
          try with_reducible rfl
        try simp only [Act.put, List.setIfInBounds_toArray, List.set_cons_zero, List.set_cons_succ]
        refine WS_take (i := 11) (v := ?va11) (by simp only [List.getElem?_toArray, List.getElem?_cons_succ, List.getElem?_cons_zero]; rfl) (by decide) (by kernel_rfl) (by kernel_rfl) (by intro _ _ _ h; exact h) (Or.inl ⟨by rfl, ?hya11⟩) hS0 ?resta11
        case hya11 =>
          intro wx hx
          have s1 := hx
          go_simp
          try with_reducible rfl
        try simp only [Act.put, List.setIfInBounds_toArray, List.set_cons_zero, List.set_cons_succ]
        refine WS_one (i := 12) (by simp only [List.getElem?_toArray, List.getElem?_cons_succ, List.getElem?_cons_zero]; rfl) (by decide) (by kernel_rfl) (fun K hK => (if_pos (by kernel_rfl)).mpr ?_)
        go_simp
        refine hK _ _ hS1 ?_
        clear hK K
        try simp only [Act.put, List.setIfInBounds_toArray, List.set_cons_zero, List.set_cons_succ]
        refine WS_one (i := 13) (by simp only [List.getElem?_toArray, List.getElem?_cons_succ, List.getElem?_cons_zero]; rfl) (by decide) (by kernel_rfl) (fun K hK => step_appB (by rfl) (.tmp 19) (.tmp 31) 25 (by rfl) w.heap.size 9 i0 _ 1 16 Tryz.underlying25 hi0' hz0 hz1 hz2 (by rfl) (by decide) (.slice B1 n1 b1) ((l.take j).map (List.take 80)).length (((l.take j).map (List.take 80)).flatMap txF) (txF (x.take 80)) rfl (by simp [txF, vs, Value.oneCell']) (by rfl) wr.drew.heap.size (by rfl) HD.out HOD.out HLE.out (by simp only [maxLen, List.length_map, List.length_take]; omega) (by simp only [List.length_map, List.length_take]; omega) ?_)
        intro v' w' q1 q2 q3
        obtain ⟨A', c', hv'⟩ := own_slice q1
        obtain ⟨A', n', c', rfl⟩ : ∃ A n c, v' = .slice A n c := ⟨_, _, _, hv'⟩
        clear hv'
        have hS2 : (fun wx : World => wx.cell? ⟨b, off + j, none⟩ = some (.string (bs x))) w' := HSX.out _ (((HBEL.out.trans (HBD.out.mono HBEL.out.size))).grown q2 HLE.out (fun k hk => (World.ownsRow.lt HOD.out k hk).1))
        have HQ := Lib.hid (And.intro q1 (And.intro q2 q3))
        refine hK _ _ hS2 ?_
        clear hK K q1 q2 q3 hS2 hS1 hS0
        try simp only [Act.put, List.setIfInBounds_toArray, List.set_cons_zero, List.set_cons_succ]
        refine WS_done (by kernel_rfl) ?_
        simp only [List.drop_succ_cons, List.drop_zero]
        go_wp2_with fail
        go_roundw
        case rel =>
          obtain ⟨q1, q2, q3⟩ := HQ.out
          refine ⟨j + 1, by omega, by omega, by go_num, ?_, ?_⟩
          · rw [HT.out]
            simpa [OwnC] using q1
          · exact ((HBEL.out.trans (HBD.out.mono HBEL.out.size))).grown q2 HLE.out (fun k hk => (World.ownsRow.lt HOD.out k hk).1)
        case measure => simp [RowKit.intOf]; omega
      · obtain rfl : j = k := by omega
        have hi2 : ¬ ((j : Nat) : Int) < (j : Int) := by omega
        have HOWN := Lib.hid hown
        clear hown hbel
        go_wp2_with fail
        go_ret
        exact ⟨u5, rfl, by rw [← List.map_take]; exact HOWN.out, HBEL.out⟩
    · obtain rfl : j = l.length := by omega
      have hi : ¬ (l.length : Int) < (l.length : Int) := by omega
      have HOWN : Hid (OwnC 9 1 txF w.heap.size wr u5 ((l.take k).map (List.take 80))) := Lib.hid (by rw [List.take_of_length_le hjk]; rw [List.take_length] at hown; exact hown)
      clear hown hbel
      go_wp2_with fail
      go_ret
      exact ⟨u5, rfl, by rw [← List.map_take]; exact HOWN.out, HBEL.out⟩

end Go.Proofs.YtjmmfihmamcopaaGreatDoor
namespace Go.Proofs.YtjmmfihmamcopaaGreatDoor
open Go.RowKit Tx Nb

theorem ciInfo : (Tryz.prog.info? 67).map (fun i => (i.zero, i.size, i.bytes)) = some (some (.agg #[.string ⟨#[]⟩, .string ⟨#[]⟩, .string ⟨#[]⟩]), 3, 48) := by kernel_rfl
def ciCut (x : Ci) : Ci := ⟨x.key.take 60, x.label.take 60, x.text.take 60⟩
set_option maxRecDepth 100000 in
set_option maxHeartbeats 16000000 in
theorem bbl_any {w : World} (vl : Value) (l : List Ci) (hr : RowC 3 ciF w w.heap.size vl l) (ok : ∀ x ∈ l, x.key.length ≤ maxLen ∧ x.label.length ≤ maxLen ∧ x.text.length ≤ maxLen) :
    Calls Tryz.prog 7 #[vl] w fun e w' => ∃ v, e = .returned v ∧ OwnC 67 3 ciF w.heap.size w' v ((l.take 6).map ciCut) ∧ Below w.heap.size w w' := by
  obtain ⟨A, c, rfl, _, hmx, z1⟩ := hr.shape
  have HC := Lib.hid z1
  have OK := Lib.hid ok
  clear z1 hr ok
  go_enter Tryz.func7, Tryz.ntmps7
  go_wp2_with fail
  go_loopw [3, 4] (fun o i wr => ∃ j : Nat, j ≤ l.length ∧ j ≤ 6 ∧ i = .int .i64 j ∧ OwnC 67 3 ciF w.heap.size wr o ((l.take j).map ciCut) ∧ Below w.heap.size w wr) (fun _ i _ => l.length - (RowKit.intOf i).toNat)
  case atStart => exact ⟨0, Nat.zero_le _, Nat.zero_le _, rfl, made_empty _ _, (Below.refl _ _).alloc (Nat.le_refl _) _⟩
  case round =>
    obtain ⟨j, hj, hjk, rfl, hown, hbel⟩ := hrel
    by_cases hjt : j < l.length
    · have hi : (j : Int) < (l.length : Int) := by omega
      have hi0 : (0 : Int) ≤ (j : Int) := by omega
      by_cases hjk2 : j < 6
      · have hi2 : (j : Int) < (6 : Int) := by omega
        obtain ⟨b, off, rfl, hbl, hc⟩ := HC.out (by intro e; rw [e] at hjt; simp at hjt)
        have x0 : wr.cell? ⟨b, off + j * 3, none⟩ = some (.string (bs l[j].key)) := (hbel.cell (p := ⟨b, off + j * 3, none⟩) hbl).trans (hc j hjt 0 _ rfl)
        have x1 : wr.cell? ⟨b, off + j * 3 + 1, none⟩ = some (.string (bs l[j].label)) := (hbel.cell (p := ⟨b, off + j * 3 + 1, none⟩) hbl).trans (hc j hjt 1 _ rfl)
        have x2 : wr.cell? ⟨b, off + j * 3 + 2, none⟩ = some (.string (bs l[j].text)) := (hbel.cell (p := ⟨b, off + j * 3 + 2, none⟩) hbl).trans (hc j hjt 2 _ rfl)
        obtain ⟨ok1, ok2, ok3⟩ := OK.out l[j] (List.getElem_mem hjt)
        have HT : Hid (l.take (j + 1) = l.take j ++ [l[j]]) := Lib.hid (List.take_succ_eq_append_getElem hjt)
        generalize l[j] = x at *
        clear hc
        obtain ⟨i0, hi0', hz0, hz1, hz2⟩ := info_parts ciInfo
        obtain ⟨B1, n1, b1, rfl⟩ : ∃ A n c, u3 = .slice A n c := by obtain ⟨A, c, e, _⟩ := (hown.rowC ciF_len).shape; exact ⟨A, _, c, e⟩
        obtain ⟨V, hV⟩ : ∃ V, V = wr.alloc (.cells #[.string (bs x.key), .string (bs x.label), .string (bs x.text)] 67) := ⟨_, rfl⟩
        obtain ⟨X, hX⟩ : ∃ X, X = wr.heap.size := ⟨_, rfl⟩
        have hVX : V.heap[X]? = some (.cells #[.string (bs x.key), .string (bs x.label), .string (bs x.text)] 67 (0, 0)) := by rw [hV, hX]; exact heap_alloc_new _ _
        have hVb : Below wr.heap.size wr V := by rw [hV]; exact (Below.refl _ _).alloc (Nat.le_refl _) _
        have HOWN := Lib.hid (hown.below hVb)
        have HLT : Hid (∀ k, (Value.slice B1 n1 b1).ownBlock = some k → k < X) := Lib.hid (fun k hk => by rw [hX]; exact (hown.lt k hk).2)
        have HBEL := Lib.hid (hbel.trans (hVb.mono hbel.size))
        have HSX : Hid (∀ wx, wx.heap[X]? = V.heap[X]? → (fun wx : World => wx.cell? ⟨X, 0, none⟩ = some (.string (bs x.key)) ∧ wx.cell? ⟨X, 1, none⟩ = some (.string (bs x.label)) ∧ wx.cell? ⟨X, 2, none⟩ = some (.string (bs x.text))) wx) := Lib.hid (fun wx h => by
          rw [hVX] at h
          exact ⟨by rw [Lib.cell_of_heap h]; rfl, by rw [Lib.cell_of_heap h]; rfl, by rw [Lib.cell_of_heap h]; rfl⟩)
        have HXL : Hid (X < V.heap.size) := Lib.hid (lt_of_block hVX)
        have HV := Lib.hid hV
        clear hV hVX hVb hown hbel
        go_upto_region 6 with fail
        rw [← HV.out, ← hX]
        clear hX HV x0 x1 x2
        have e0 := ext_take x.key 60
        simp only [show ((60 : Nat) : Int) = 60 from rfl] at e0
        have z0 := bs_size x.key
        have f0 : (0 : Int) ≤ min ((bs x.key).size : Int) 60 := by omega
        have g0 : min ((bs x.key).size : Int) 60 ≤ ((bs x.key).size : Int) := by omega
        rw [z0] at e0 f0 g0
        have e1 := ext_take x.label 60
        simp only [show ((60 : Nat) : Int) = 60 from rfl] at e1
        have z1 := bs_size x.label
        have f1 : (0 : Int) ≤ min ((bs x.label).size : Int) 60 := by omega
        have g1 : min ((bs x.label).size : Int) 60 ≤ ((bs x.label).size : Int) := by omega
        rw [z1] at e1 f1 g1
        have e2 := ext_take x.text 60
        simp only [show ((60 : Nat) : Int) = 60 from rfl] at e2
        have z2 := bs_size x.text
        have f2 : (0 : Int) ≤ min ((bs x.text).size : Int) 60 := by omega
        have g2 : min ((bs x.text).size : Int) 60 ≤ ((bs x.text).size : Int) := by omega
        rw [z2] at e2 f2 g2
        go_upto_region 6 with fail
        have hbd : Below V.heap.size V (V.drew.alloc (.cells #[.string (bs (x.key.take 60)), .string (bs (x.label.take 60)), .string (bs (x.text.take 60))] 67)) := ((Below.refl V.heap.size V).drew).alloc (Nat.le_refl _) _
        have HOD := Lib.hid (HOWN.out.below hbd)
        have HBD := Lib.hid hbd
        have HD := Lib.hid (heap_alloc_new V.drew (.cells #[.string (bs (x.key.take 60)), .string (bs (x.label.take 60)), .string (bs (x.text.take 60))] 67))
        have HLE : Hid (w.heap.size ≤ (V.drew.alloc (.cells #[.string (bs (x.key.take 60)), .string (bs (x.label.take 60)), .string (bs (x.text.take 60))] 67)).heap.size) := Lib.hid (Nat.le_trans HBEL.out.size hbd.size)
        have hS0 : (fun wx : World => wx.cell? ⟨X, 0, none⟩ = some (.string (bs x.key)) ∧ wx.cell? ⟨X, 1, none⟩ = some (.string (bs x.label)) ∧ wx.cell? ⟨X, 2, none⟩ = some (.string (bs x.text))) V.drew := HSX.out _ rfl
        have hS1 : (fun wx : World => wx.cell? ⟨X, 0, none⟩ = some (.string (bs x.key)) ∧ wx.cell? ⟨X, 1, none⟩ = some (.string (bs x.label)) ∧ wx.cell? ⟨X, 2, none⟩ = some (.string (bs x.text))) (V.drew.alloc (.cells #[.string (bs (x.key.take 60)), .string (bs (x.label.take 60)), .string (bs (x.text.take 60))] 67)) := HSX.out _ (Below.heap_alloc _ _ _ HXL.out)
        clear hbd
        refine wp_region_headS 25 (fun wx : World => wx.cell? ⟨X, 0, none⟩ = some (.string (bs x.key)) ∧ wx.cell? ⟨X, 1, none⟩ = some (.string (bs x.label)) ∧ wx.cell? ⟨X, 2, none⟩ = some (.string (bs x.text))) (by kernel_rfl) (by kernel_rfl) ?_
        refine WS_take (i := 0) (v := ?va0) (by simp only [List.getElem?_toArray, List.getElem?_cons_zero]; rfl) (by decide) (by kernel_rfl) (by kernel_rfl) (by intro _ _ _ h; exact h) (Or.inl ⟨by rfl, ?hya0⟩) hS0 ?resta0
        case hya0 =>
          intro wx hx
          obtain ⟨s1, s2, s3⟩ := hx
          go_simp
          try with_reducible rfl
        try simp only [Act.put, List.setIfInBounds_toArray, List.set_cons_zero, List.set_cons_succ]
        refine WS_take (i := 1) (v := ?va1) (by simp only [List.getElem?_toArray, List.getElem?_cons_succ, List.getElem?_cons_zero]; rfl) (by decide) (by kernel_rfl) (by kernel_rfl) (by intro _ _ _ h; exact h) (Or.inl ⟨by rfl, ?hya1⟩) hS0 ?resta1
        case hya1 =>
          intro wx hx
          obtain ⟨s1, s2, s3⟩ := hx
          go_simp
          try with_reducible rfl
        try simp only [Act.put, List.setIfInBounds_toArray, List.set_cons_zero, List.set_cons_succ]
        refine WS_take (i := 2) (v := ?va2) (by simp only [List.getElem?_toArray, List.getElem?_cons_succ, List.getElem?_cons_zero]; rfl) (by decide) (by kernel_rfl) (by kernel_rfl) (by intro _ _ _ h; exact h) (Or.inl ⟨by rfl, ?hya2⟩) hS0 ?resta2
        case hya2 =>
          intro wx hx
          obtain ⟨s1, s2, s3⟩ := hx
          go_simp
          try with_reducible rfl
        try simp only [Act.put, List.setIfInBounds_toArray, List.set_cons_zero, List.set_cons_succ]
        refine WS_take (i := 3) (v := ?va3) (by simp only [List.getElem?_toArray, List.getElem?_cons_succ, List.getElem?_cons_zero]; rfl) (by decide) (by kernel_rfl) (by kernel_rfl) (by intro _ _ _ h; exact h) (Or.inl ⟨by rfl, ?hya3⟩) hS0 ?resta3
        case hya3 =>
          intro wx hx
          obtain ⟨s1, s2, s3⟩ := hx
          go_simp
          try with_reducible rfl
        try simp only [Act.put, List.setIfInBounds_toArray, List.set_cons_zero, List.set_cons_succ]
        refine WS_take (i := 4) (v := ?va4) (by simp only [List.getElem?_toArray, List.getElem?_cons_succ, List.getElem?_cons_zero]; rfl) (by decide) (by kernel_rfl) (by kernel_rfl) (by intro _ _ _ h; exact h) (Or.inl ⟨by rfl, ?hya4⟩) hS0 ?resta4
        case hya4 =>
          intro wx hx
          obtain ⟨s1, s2, s3⟩ := hx
          go_simp
          try with_reducible rfl
        try simp only [Act.put, List.setIfInBounds_toArray, List.set_cons_zero, List.set_cons_succ]
        refine WS_take (i := 5) (v := ?va5) (by simp only [List.getElem?_toArray, List.getElem?_cons_succ, List.getElem?_cons_zero]; rfl) (by decide) (by kernel_rfl) (by kernel_rfl) (by intro _ _ _ h; exact h) (Or.inl ⟨by rfl, ?hya5⟩) hS0 ?resta5
        case hya5 =>
          intro wx hx
          obtain ⟨s1, s2, s3⟩ := hx
          go_simp
          try with_reducible rfl
        try simp only [Act.put, List.setIfInBounds_toArray, List.set_cons_zero, List.set_cons_succ]
        refine WS_take (i := 6) (v := ?va6) (by simp only [List.getElem?_toArray, List.getElem?_cons_succ, List.getElem?_cons_zero]; rfl) (by decide) (by kernel_rfl) (by kernel_rfl) (by intro _ _ _ h; exact h) (Or.inl ⟨by rfl, ?hya6⟩) hS0 ?resta6
        case hya6 =>
          intro wx hx
          obtain ⟨s1, s2, s3⟩ := hx
          go_simp
          try with_reducible rfl
        try simp only [Act.put, List.setIfInBounds_toArray, List.set_cons_zero, List.set_cons_succ]
        refine WS_take (i := 7) (v := ?va7) (by simp only [List.getElem?_toArray, List.getElem?_cons_succ, List.getElem?_cons_zero]; rfl) (by decide) (by kernel_rfl) (by kernel_rfl) (by intro _ _ _ h; exact h) (Or.inl ⟨by rfl, ?hya7⟩) hS0 ?resta7
        case hya7 =>
          intro wx hx
          obtain ⟨s1, s2, s3⟩ := hx
          go_simp
          try with_reducible rfl
        try simp only [Act.put, List.setIfInBounds_toArray, List.set_cons_zero, List.set_cons_succ]
        refine WS_take (i := 8) (v := ?va8) (by simp only [List.getElem?_toArray, List.getElem?_cons_succ, List.getElem?_cons_zero]; rfl) (by decide) (by kernel_rfl) (by kernel_rfl) (by intro _ _ _ h; exact h) (Or.inl ⟨by rfl, ?hya8⟩) hS0 ?resta8
        case hya8 =>
          intro wx hx
          obtain ⟨s1, s2, s3⟩ := hx
          go_simp
          try with_reducible rfl
        try simp only [Act.put, List.setIfInBounds_toArray, List.set_cons_zero, List.set_cons_succ]
        refine WS_take (i := 9) (v := ?va9) (by simp only [List.getElem?_toArray, List.getElem?_cons_succ, List.getElem?_cons_zero]; rfl) (by decide) (by kernel_rfl) (by kernel_rfl) (by intro _ _ _ h; exact h) (Or.inl ⟨by rfl, ?hya9⟩) hS0 ?resta9
        case hya9 =>
          intro wx hx
          obtain ⟨s1, s2, s3⟩ := hx
          go_simp
          try with_reducible rfl
        try simp only [Act.put, List.setIfInBounds_toArray, List.set_cons_zero, List.set_cons_succ]
        refine WS_take (i := 10) (v := ?va10) (by simp only [List.getElem?_toArray, List.getElem?_cons_succ, List.getElem?_cons_zero]; rfl) (by decide) (by kernel_rfl) (by kernel_rfl) (by intro _ _ _ h; exact h) (Or.inl ⟨by rfl, ?hya10⟩) hS0 ?resta10
        case hya10 =>
          intro wx hx
          obtain ⟨s1, s2, s3⟩ := hx
          go_simp
          try with_reducible rfl
        try simp only [Act.put, List.setIfInBounds_toArray, List.set_cons_zero, List.set_cons_succ]
        refine WS_take (i := 11) (v := ?va11) (by simp only [List.getElem?_toArray, List.getElem?_cons_succ, List.getElem?_cons_zero]; rfl) (by decide) (by kernel_rfl) (by kernel_rfl) (by intro _ _ _ h; exact h) (Or.inl ⟨by rfl, ?hya11⟩) hS0 ?resta11
        case hya11 =>
          intro wx hx
          obtain ⟨s1, s2, s3⟩ := hx
          go_simp
          try with_reducible rfl
        try simp only [Act.put, List.setIfInBounds_toArray, List.set_cons_zero, List.set_cons_succ]
        refine WS_take (i := 12) (v := ?va12) (by simp only [List.getElem?_toArray, List.getElem?_cons_succ, List.getElem?_cons_zero]; rfl) (by decide) (by kernel_rfl) (by kernel_rfl) (by intro _ _ _ h; exact h) (Or.inl ⟨by rfl, ?hya12⟩) hS0 ?resta12
        case hya12 =>
          intro wx hx
          obtain ⟨s1, s2, s3⟩ := hx
          go_simp
          try with_reducible rfl
        try simp only [Act.put, List.setIfInBounds_toArray, List.set_cons_zero, List.set_cons_succ]
        refine WS_take (i := 13) (v := ?va13) (by simp only [List.getElem?_toArray, List.getElem?_cons_succ, List.getElem?_cons_zero]; rfl) (by decide) (by kernel_rfl) (by kernel_rfl) (by intro _ _ _ h; exact h) (Or.inl ⟨by rfl, ?hya13⟩) hS0 ?resta13
        case hya13 =>
          intro wx hx
          obtain ⟨s1, s2, s3⟩ := hx
          go_simp
          try with_reducible rfl
        try simp only [Act.put, List.setIfInBounds_toArray, List.set_cons_zero, List.set_cons_succ]
        refine WS_take (i := 14) (v := ?va14) (by simp only [List.getElem?_toArray, List.getElem?_cons_succ, List.getElem?_cons_zero]; rfl) (by decide) (by kernel_rfl) (by kernel_rfl) (by intro _ _ _ h; exact h) (Or.inl ⟨by rfl, ?hya14⟩) hS0 ?resta14
        case hya14 =>
          intro wx hx
          obtain ⟨s1, s2, s3⟩ := hx
          go_simp
          try with_reducible rfl
        try simp only [Act.put, List.setIfInBounds_toArray, List.set_cons_zero, List.set_cons_succ]
        refine WS_take (i := 15) (v := ?va15) (by simp only [List.getElem?_toArray, List.getElem?_cons_succ, List.getElem?_cons_zero]; rfl) (by decide) (by kernel_rfl) (by kernel_rfl) (by intro _ _ _ h; exact h) (Or.inl ⟨by rfl, ?hya15⟩) hS0 ?resta15
        case hya15 =>
          intro wx hx
          obtain ⟨s1, s2, s3⟩ := hx
          go_simp
          try with_reducible rfl
        try simp only [Act.put, List.setIfInBounds_toArray, List.set_cons_zero, List.set_cons_succ]
        refine WS_take (i := 16) (v := ?va16) (by simp only [List.getElem?_toArray, List.getElem?_cons_succ, List.getElem?_cons_zero]; rfl) (by decide) (by kernel_rfl) (by kernel_rfl) (by intro _ _ _ h; exact h) (Or.inl ⟨by rfl, ?hya16⟩) hS0 ?resta16
        case hya16 =>
          intro wx hx
          obtain ⟨s1, s2, s3⟩ := hx
          go_simp
          try with_reducible rfl
        try simp only [Act.put, List.setIfInBounds_toArray, List.set_cons_zero, List.set_cons_succ]
        refine WS_take (i := 17) (v := ?va17) (by simp only [List.getElem?_toArray, List.getElem?_cons_succ, List.getElem?_cons_zero]; rfl) (by decide) (by kernel_rfl) (by kernel_rfl) (by intro _ _ _ h; exact h) (Or.inl ⟨by rfl, ?hya17⟩) hS0 ?resta17
        case hya17 =>
          intro wx hx
          obtain ⟨s1, s2, s3⟩ := hx
          go_simp
          try with_reducible rfl
        try simp only [Act.put, List.setIfInBounds_toArray, List.set_cons_zero, List.set_cons_succ]
        refine WS_take (i := 18) (v := ?va18) (by simp only [List.getElem?_toArray, List.getElem?_cons_succ, List.getElem?_cons_zero]; rfl) (by decide) (by kernel_rfl) (by kernel_rfl) (by intro _ _ _ h; exact h) (Or.inl ⟨by rfl, ?hya18⟩) hS0 ?resta18
        case hya18 =>
          intro wx hx
          obtain ⟨s1, s2, s3⟩ := hx
          go_simp
          try with_reducible rfl
        try simp only [Act.put, List.setIfInBounds_toArray, List.set_cons_zero, List.set_cons_succ]
        refine WS_take (i := 19) (v := ?va19) (by simp only [List.getElem?_toArray, List.getElem?_cons_succ, List.getElem?_cons_zero]; rfl) (by decide) (by kernel_rfl) (by kernel_rfl) (by intro _ _ _ h; exact h) (Or.inl ⟨by rfl, ?hya19⟩) hS0 ?resta19
        case hya19 =>
          intro wx hx
          obtain ⟨s1, s2, s3⟩ := hx
          go_simp
          try with_reducible rfl
        try simp only [Act.put, List.setIfInBounds_toArray, List.set_cons_zero, List.set_cons_succ]
        refine WS_take (i := 20) (v := ?va20) (by simp only [List.getElem?_toArray, List.getElem?_cons_succ, List.getElem?_cons_zero]; rfl) (by decide) (by kernel_rfl) (by kernel_rfl) (by intro _ _ _ h; exact h) (Or.inl ⟨by rfl, ?hya20⟩) hS0 ?resta20
        case hya20 =>
          intro wx hx
          obtain ⟨s1, s2, s3⟩ := hx
          go_simp
          try with_reducible rfl
        try simp only [Act.put, List.setIfInBounds_toArray, List.set_cons_zero, List.set_cons_succ]
        refine WS_take (i := 21) (v := ?va21) (by simp only [List.getElem?_toArray, List.getElem?_cons_succ, List.getElem?_cons_zero]; rfl) (by decide) (by kernel_rfl) (by kernel_rfl) (by intro _ _ _ h; exact h) (Or.inl ⟨by rfl, ?hya21⟩) hS0 ?resta21
        case hya21 =>
          intro wx hx
          obtain ⟨s1, s2, s3⟩ := hx
          go_simp
          try with_reducible rfl
        try simp only [Act.put, List.setIfInBounds_toArray, List.set_cons_zero, List.set_cons_succ]
        refine WS_take (i := 22) (v := ?va22) (by simp only [List.getElem?_toArray, List.getElem?_cons_succ, List.getElem?_cons_zero]; rfl) (by decide) (by kernel_rfl) (by kernel_rfl) (by intro _ _ _ h; exact h) (Or.inl ⟨by rfl, ?hya22⟩) hS0 ?resta22
        case hya22 =>
          intro wx hx
          obtain ⟨s1, s2, s3⟩ := hx
          go_simp
          try with_reducible rfl
        try simp only [Act.put, List.setIfInBounds_toArray, List.set_cons_zero, List.set_cons_succ]
        refine WS_one (i := 23) (by simp only [List.getElem?_toArray, List.getElem?_cons_succ, List.getElem?_cons_zero]; rfl) (by decide) (by kernel_rfl) (fun K hK => (if_pos (by kernel_rfl)).mpr ?_)
        go_simp
        refine hK _ _ hS1 ?_
        clear hK K
        try simp only [Act.put, List.setIfInBounds_toArray, List.set_cons_zero, List.set_cons_succ]
        refine WS_one (i := 24) (by simp only [List.getElem?_toArray, List.getElem?_cons_succ, List.getElem?_cons_zero]; rfl) (by decide) (by kernel_rfl) (fun K hK => step_appB (by rfl) (.tmp 21) (.tmp 44) 28 (by rfl) w.heap.size 67 i0 _ 3 48 Tryz.underlying28 hi0' hz0 hz1 hz2 (by rfl) (by decide) (.slice B1 n1 b1) ((l.take j).map ciCut).length (((l.take j).map ciCut).flatMap ciF) (ciF (ciCut x)) rfl (by simp [ciF, ciCut, vs, Value.oneCell']) (by rfl) V.drew.heap.size (by rfl) HD.out HOD.out HLE.out (by simp only [maxLen, List.length_map, List.length_take]; omega) (by simp only [List.length_map, List.length_take]; omega) ?_)
        intro v' w' q1 q2 q3
        obtain ⟨A', c', hv'⟩ := own_slice q1
        obtain ⟨A', n', c', rfl⟩ : ∃ A n c, v' = .slice A n c := ⟨_, _, _, hv'⟩
        clear hv'
        have hS2 : (fun wx : World => wx.cell? ⟨X, 0, none⟩ = some (.string (bs x.key)) ∧ wx.cell? ⟨X, 1, none⟩ = some (.string (bs x.label)) ∧ wx.cell? ⟨X, 2, none⟩ = some (.string (bs x.text))) w' := HSX.out _ ((q2.block X (by have := HXL.out; simp; omega) (fun e => Nat.lt_irrefl _ (HLT.out X e.symm))).trans (Below.heap_alloc _ _ _ HXL.out))
        have HQ := Lib.hid (And.intro q1 (And.intro q2 q3))
        refine hK _ _ hS2 ?_
        clear hK K q1 q2 q3 hS2 hS1 hS0
        try simp only [Act.put, List.setIfInBounds_toArray, List.set_cons_zero, List.set_cons_succ]
        refine WS_done (by kernel_rfl) ?_
        simp only [List.drop_succ_cons, List.drop_zero]
        go_wp2_with fail
        go_roundw
        case rel =>
          obtain ⟨q1, q2, q3⟩ := HQ.out
          refine ⟨j + 1, by omega, by omega, by go_num, ?_, ?_⟩
          · rw [HT.out]
            simpa [OwnC] using q1
          · exact ((HBEL.out.trans (HBD.out.mono HBEL.out.size))).grown q2 HLE.out (fun k hk => (World.ownsRow.lt HOD.out k hk).1)
        case measure => simp [RowKit.intOf]; omega
      · obtain rfl : j = 6 := by omega
        have hi2 : ¬ ((6 : Int) : Int) < (6 : Int) := by omega
        have HOWN := Lib.hid hown
        have HBEL := Lib.hid hbel
        clear hown hbel
        go_wp2_with fail
        go_ret
        exact ⟨u3, rfl, by rw [← List.map_take]; exact HOWN.out, HBEL.out⟩
    · obtain rfl : j = l.length := by omega
      have hi : ¬ (l.length : Int) < (l.length : Int) := by omega
      have HOWN : Hid (OwnC 67 3 ciF w.heap.size wr u3 ((l.take 6).map ciCut)) := Lib.hid (by rw [List.take_of_length_le hjk]; rw [List.take_length] at hown; exact hown)
      have HBEL := Lib.hid hbel
      clear hown hbel
      go_wp2_with fail
      go_ret
      exact ⟨u3, rfl, by rw [← List.map_take]; exact HOWN.out, HBEL.out⟩
end Go.Proofs.YtjmmfihmamcopaaGreatDoor
namespace Go.Proofs.YtjmmfihmamcopaaGreatDoor
open Go.RowKit Tx Nb

theorem slInfo : (Tryz.prog.info? 63).map (fun i => (i.zero, i.size, i.bytes)) = some (some (.agg #[.string ⟨#[]⟩, .string ⟨#[]⟩, .int .i64 0]), 3, 40) := by kernel_rfl
theorem shInfo : (Tryz.prog.info? 65).map (fun i => (i.zero, i.size, i.bytes)) = some (some (.agg #[.int .i64 0, .string ⟨#[]⟩, .string ⟨#[]⟩, .int .i64 0]), 4, 48) := by kernel_rfl
def labCut (x : Lab) : Lab := ⟨x.key.take 80, x.num.take 80, x.page⟩
def hdCut (x : Hd) : Hd := ⟨x.level, x.num.take 80, x.title.take 80, x.page⟩
/-- The given side's copy, and the answer's place. -/
structure Gd (w : World) (o1 o2 : Obj) (wr : World) : Prop where
  g0 : wr.heap[w.heap.size]? = some o1
  g1 : wr.heap[w.heap.size + 1]? = some o2
  gb : Below w.heap.size w wr
theorem Gd.step {w wr wx : World} {o1 o2 : Obj} (h : Gd w o1 o2 wr) (hb : Below wr.heap.size wr wx) : Gd w o1 o2 wx :=
  ⟨(hb.block _ (lt_of_block h.g0)).trans h.g0, (hb.block _ (lt_of_block h.g1)).trans h.g1, h.gb.trans (hb.mono h.gb.size)⟩
theorem Gd.made (w : World) (o1 o2 : Obj) : Gd w o1 o2 ((w.alloc o1).alloc o2) := by
  refine ⟨?_, ?_, ((Below.refl _ _).alloc (Nat.le_refl _) _).alloc (by simp) _⟩
  · rw [Below.heap_alloc _ _ _ (by simp)]; exact heap_alloc_new w o1
  · have := heap_alloc_new (w.alloc o1) o2
    simpa using this
theorem Gd.alloc {w wr : World} {o1 o2 : Obj} (h : Gd w o1 o2 wr) (o : Obj) : Gd w o1 o2 (wr.alloc o) := h.step ((Below.refl _ _).alloc (Nat.le_refl _) _)
/-- And the side that is made. -/
structure Fin3 (w : World) (o1 o2 : Obj) (X : Nat) (o3 : Obj) (wr : World) : Prop where
  g0 : wr.heap[w.heap.size]? = some o1
  g1 : wr.heap[w.heap.size + 1]? = some o2
  g2 : wr.heap[X]? = some o3
  hX : w.heap.size + 2 ≤ X
  gb : Below w.heap.size w wr
theorem Gd.fin1 {w wr : World} {o1 o2 : Obj} (h : Gd w o1 o2 wr) (o3 : Obj) : Fin3 w o1 o2 wr.heap.size o3 (wr.alloc o3) :=
  ⟨(h.alloc o3).g0, (h.alloc o3).g1, heap_alloc_new wr o3, by have := lt_of_block h.g1; omega, (h.alloc o3).gb⟩
theorem Gd.fin2 {w wr : World} {o1 o2 : Obj} {X : Nat} {z0 z1 z2 z3 x0 x1 x2 x3 : Value} {t : TypeId} (h : Gd w o1 o2 wr) (hx : wr.heap[X]? = some (.cells #[z0, z1, z2, z3] t (0, 0))) (hX : w.heap.size + 2 ≤ X) :
    Fin3 w o1 o2 X (.cells #[x0, x1, x2, x3] t (0, 0)) ((((wr.setCell ⟨X, 0, none⟩ x0).setCell ⟨X, 1, none⟩ x1).setCell ⟨X, 2, none⟩ x2).setCell ⟨X, 3, none⟩ x3) := by
  have hoth : ∀ k, k ≠ X → ((((wr.setCell ⟨X, 0, none⟩ x0).setCell ⟨X, 1, none⟩ x1).setCell ⟨X, 2, none⟩ x2).setCell ⟨X, 3, none⟩ x3).heap[k]? = wr.heap[k]? := fun k hk => by
    have hh : ∀ (w' : World) (i : Nat) (x : Value), (w'.setCell ⟨X, i, none⟩ x).heap[k]? = w'.heap[k]? := fun w' i x => Below.heap_setCell _ _ _ _ hk
    rw [hh, hh, hh, hh]
  refine ⟨(hoth _ (by omega)).trans h.g0, (hoth _ (by omega)).trans h.g1, ?_, hX, (((h.gb.setCell (p := ⟨X, 0, none⟩) (by show w.heap.size ≤ X; omega) _).setCell (p := ⟨X, 1, none⟩) (by show w.heap.size ≤ X; omega) _).setCell (p := ⟨X, 2, none⟩) (by show w.heap.size ≤ X; omega) _).setCell (p := ⟨X, 3, none⟩) (by show w.heap.size ≤ X; omega) _⟩
  have a0 := cells_set (j := 0) hx x0
  have a1 := cells_set (j := 1) a0 x1
  have a2 := cells_set (j := 2) a1 x2
  have a3 := cells_set (j := 3) a2 x3
  simpa only [List.setIfInBounds_toArray, List.set_cons_zero, List.set_cons_succ] using a3
/-- A side that was cut. -/
def CutPost (w : World) (L : List Lab) (H : List Hd) (e : Ending) (w' : World) : Prop := ∃ (v1 v2 : Value) (C3 : Option Addr) (m3 e3 : Nat) (C4 : Option Addr) (m4 e4 : Nat), e = .returned (.agg #[v1, v2, .slice C3 m3 e3, .slice C4 m4 e4]) ∧ OwnC 63 3 labF w.heap.size w' v1 L ∧ OwnC 65 4 hdF w.heap.size w' v2 H ∧ Below w.heap.size w w'
set_option maxRecDepth 100000 in
set_option maxHeartbeats 16000000 in
theorem l10cut_any {w : World} (vl vh vC vB : Value) (l : List Lab) (h : List Hd) (lc lb : List Bs) (hr1 : RowC 3 labF w w.heap.size vl l) (hr2 : RowC 4 hdF w w.heap.size vh h) (hr3 : RowC 1 txF w w.heap.size vC lc) (hr4 : RowC 1 txF w w.heap.size vB lb)
    (ok1 : ∀ x ∈ l, x.key.length ≤ maxLen ∧ x.num.length ≤ maxLen) (ok2 : ∀ x ∈ h, x.num.length ≤ maxLen ∧ x.title.length ≤ maxLen) (ok3 : ∀ x ∈ lc, x.length ≤ maxLen) (ok4 : ∀ x ∈ lb, x.length ≤ maxLen) (k : Nat) (hk : k ≤ 1000) :
    Calls Tryz.prog 6 #[.agg #[vl, vh, vC, vB], .int .i64 k] w (CutPost w ((l.take k).map labCut) ((h.take k).map hdCut)) := by
  have ht3 : ∀ wx, Below w.heap.size w wx → Calls Tryz.prog 16 #[vC, .int .i64 k] wx fun e w' => ∃ C m c, e = .returned (.slice C m c) ∧ Below wx.heap.size wx w' := fun wx hb =>
    (texts_any vC lc (hr3.step hb) ok3 k hk).mono fun e w' ⟨v, he, ho, hbb⟩ => by obtain ⟨A, c, hv⟩ := own_slice ho; exact ⟨A, _, c, by rw [he, hv], hbb⟩
  have ht4 : ∀ wx, Below w.heap.size w wx → Calls Tryz.prog 16 #[vB, .int .i64 k] wx fun e w' => ∃ C m c, e = .returned (.slice C m c) ∧ Below wx.heap.size wx w' := fun wx hb =>
    (texts_any vB lb (hr4.step hb) ok4 k hk).mono fun e w' ⟨v, he, ho, hbb⟩ => by obtain ⟨A, c, hv⟩ := own_slice ho; exact ⟨A, _, c, by rw [he, hv], hbb⟩
  obtain ⟨A1, c1, rfl, _, _, z1⟩ := hr1.shape
  obtain ⟨A2, c2, rfl, _, _, z2⟩ := hr2.shape
  obtain ⟨A3, c3, e3, _⟩ := hr3.shape
  obtain ⟨A4, c4, e4, _⟩ := hr4.shape
  generalize lc.length = n3 at e3
  generalize lb.length = n4 at e4
  subst e3 e4
  have HC1 := Lib.hid z1
  have HC2 := Lib.hid z2
  have OK1 := Lib.hid ok1
  have OK2 := Lib.hid ok2
  have HT3 := Lib.hid ht3
  have HT4 := Lib.hid ht4
  clear z1 z2 hr1 hr2 hr3 hr4 ok1 ok2 ok3 ok4 ht3 ht4
  obtain ⟨W, hW⟩ : ∃ W, W = (w.alloc (.cells #[.slice A1 l.length c1, .slice A2 h.length c2, .slice A3 n3 c3, .slice A4 n4 c4] 27 (0, 0))).alloc (.cells #[.slice none 0 0, .slice none 0 0, .slice none 0 0, .slice none 0 0] 27 (0, 0)) := ⟨_, rfl⟩
  have hG : Gd w (.cells #[.slice A1 l.length c1, .slice A2 h.length c2, .slice A3 n3 c3, .slice A4 n4 c4] 27 (0, 0)) (.cells #[.slice none 0 0, .slice none 0 0, .slice none 0 0, .slice none 0 0] 27 (0, 0)) W := by rw [hW]; exact Gd.made w _ _
  have sW : W.heap.size = w.heap.size + 2 := by rw [hW]; simp
  have HW := Lib.hid hW
  have HWS : Hid (W.heap.size = w.heap.size + 2) := Lib.hid sW
  clear hW
  go_enter Tryz.func6, Tryz.ntmps6
  go_upto_block 0 with fail
  go_cut [5] (fun v5 wr => ∃ (X : Nat) (C3 : Option Addr) (m3 e3 : Nat) (C4 : Option Addr) (m4 e4 : Nat), v5 = .pointer (some ⟨X, 0, none⟩) ∧ Fin3 w (.cells #[.slice A1 l.length c1, .slice A2 h.length c2, .slice A3 n3 c3, .slice A4 n4 c4] 27 (0, 0)) (.cells #[.slice none 0 0, .slice none 0 0, .slice none 0 0, .slice none 0 0] 27 (0, 0)) X (.cells #[.slice none 0 0, .slice none 0 0, .slice C3 m3 e3, .slice C4 m4 e4] 27 (0, 0)) wr)
  case first =>
    rw [← HW.out]
    go_wp2_with fail
    have neW : w.heap.size ≠ W.heap.size := by omega
    have neW' : W.heap.size ≠ w.heap.size := by omega
    clear sW
    have q2 : W.cell? ⟨w.heap.size, 2, none⟩ = some (.slice A3 n3 c3) := by rw [Lib.cell_of_heap hG.g0]; rfl
    have q3 : W.cell? ⟨w.heap.size, 3, none⟩ = some (.slice A4 n4 c4) := by rw [Lib.cell_of_heap hG.g0]; rfl
    go_region_held3 (fun wx => wx.cell? ⟨w.heap.size, 2, none⟩ = some (.slice A3 n3 c3) ∧ wx.cell? ⟨w.heap.size, 3, none⟩ = some (.slice A4 n4 c4)) (go_keep) (first
      | (have hG6x := hG6; go_at_call 16; refine (HT4.out _ (by first | exact hG6.gb | exact (hG6.alloc _).gb)).mono ?_; rintro e w7 ⟨C4, m4, e4, rfl, b7⟩; have hB7 : Below w6.heap.size w6 w7 := (by first | exact b7 | exact ((Below.refl w6.heap.size w6).alloc (Nat.le_refl _) _).trans (b7.mono (by simp))); have hG7 := hG6.step hB7; (first | (have kx7 : w7.heap[W.heap.size]? = some (.cells #[.slice none 0 0, .slice none 0 0, .slice none 0 0, .slice none 0 0] 27 (0, 0)) := (hB7.block _ (lt_of_block kx6)).trans kx6; have d70 : w7.cell? ⟨W.heap.size, 0, none⟩ = some (.slice none 0 0) := (by rw [Lib.cell_of_heap kx7]; rfl); have d71 : w7.cell? ⟨W.heap.size, 1, none⟩ = some (.slice none 0 0) := (by rw [Lib.cell_of_heap kx7]; rfl); have d72 : w7.cell? ⟨W.heap.size, 2, none⟩ = some (.slice none 0 0) := (by rw [Lib.cell_of_heap kx7]; rfl); have d73 : w7.cell? ⟨W.heap.size, 3, none⟩ = some (.slice none 0 0) := (by rw [Lib.cell_of_heap kx7]; rfl); have f70 := Lib.frozen_of_heap kx7 0; have f71 := Lib.frozen_of_heap kx7 1; have f72 := Lib.frozen_of_heap kx7 2; have f73 := Lib.frozen_of_heap kx7 3) | (have kx7 : w7.heap[w6.heap.size]? = some (.cells #[.slice none 0 0, .slice none 0 0, .slice none 0 0, .slice none 0 0] 27 (0, 0)) := (b7.block w6.heap.size (by simp)).trans (heap_alloc_new w6 (.cells #[.slice none 0 0, .slice none 0 0, .slice none 0 0, .slice none 0 0] 27)); have d70 : w7.cell? ⟨w6.heap.size, 0, none⟩ = some (.slice none 0 0) := (by rw [Lib.cell_of_heap kx7]; rfl); have d71 : w7.cell? ⟨w6.heap.size, 1, none⟩ = some (.slice none 0 0) := (by rw [Lib.cell_of_heap kx7]; rfl); have d72 : w7.cell? ⟨w6.heap.size, 2, none⟩ = some (.slice none 0 0) := (by rw [Lib.cell_of_heap kx7]; rfl); have d73 : w7.cell? ⟨w6.heap.size, 3, none⟩ = some (.slice none 0 0) := (by rw [Lib.cell_of_heap kx7]; rfl); have f70 := Lib.frozen_of_heap kx7 0; have f71 := Lib.frozen_of_heap kx7 1; have f72 := Lib.frozen_of_heap kx7 2; have f73 := Lib.frozen_of_heap kx7 3) | skip); have k72 : w7.cell? ⟨w.heap.size, 2, none⟩ = some (.slice A3 n3 c3) := (by rw [Lib.cell_of_heap hG7.g0]; rfl); have k73 : w7.cell? ⟨w.heap.size, 3, none⟩ = some (.slice A4 n4 c4) := (by rw [Lib.cell_of_heap hG7.g0]; rfl); dsimp only)
      | (go_at_call 16; refine (HT3.out _ (by first | exact (hG.step (Below.refl _ _).drew).gb | exact ((hG.alloc _).step (Below.refl _ _).drew).gb)).mono ?_; rintro e w6 ⟨C3, m3, e3, rfl, b6⟩; have hB6 : Below W.heap.size W w6 := (by first | exact ((Below.refl W.heap.size W).drew).trans b6 | exact (((Below.refl W.heap.size W).alloc (Nat.le_refl _) _).drew).trans (b6.mono (by simp))); have hG6 := hG.step hB6; have ne6 : w.heap.size ≠ w6.heap.size := (by have h1 := hB6.size; have h2 := HWS.out; omega); have ne6' : w6.heap.size ≠ w.heap.size := (by have h1 := hB6.size; have h2 := HWS.out; omega); (first | (have kx6 : w6.heap[W.heap.size]? = some (.cells #[.slice none 0 0, .slice none 0 0, .slice none 0 0, .slice none 0 0] 27 (0, 0)) := (b6.block W.heap.size (by simp)).trans (show ((W.alloc (.cells #[.slice none 0 0, .slice none 0 0, .slice none 0 0, .slice none 0 0] 27)).drew).heap[W.heap.size]? = some _ from heap_alloc_new W (.cells #[.slice none 0 0, .slice none 0 0, .slice none 0 0, .slice none 0 0] 27))) | (have kx6 : w6.heap[W.heap.size]? = some (.cells #[.slice none 0 0, .slice none 0 0, .slice none 0 0, .slice none 0 0] 27 (0, 0)) := (b6.block W.heap.size (by simp)).trans (show (W.drew.alloc (.cells #[.slice none 0 0, .slice none 0 0, .slice none 0 0, .slice none 0 0] 27)).heap[W.heap.size]? = some _ from heap_alloc_new W.drew (.cells #[.slice none 0 0, .slice none 0 0, .slice none 0 0, .slice none 0 0] 27))) | skip); have k62 : w6.cell? ⟨w.heap.size, 2, none⟩ = some (.slice A3 n3 c3) := (by rw [Lib.cell_of_heap hG6.g0]; rfl); have k63 : w6.cell? ⟨w.heap.size, 3, none⟩ = some (.slice A4 n4 c4) := (by rw [Lib.cell_of_heap hG6.g0]; rfl); dsimp only))
    all_goals go_wp2_with fail
    all_goals go_meet
    · exact ⟨_, C3, m3, e3, C4, m4, e4, rfl, hG7.fin1 _⟩
    · exact ⟨_, C3, m3, e3, C4, m4, e4, rfl, hG7.fin2 kx7 (by have h1 := hB6.size; have h2 := HWS.out; omega)⟩
    · exact ⟨_, C3, m3, e3, C4, m4, e4, rfl, hG7.fin2 kx7 (by have h2 := HWS.out; omega)⟩
  case rest =>
    obtain ⟨X, C3, m3, e3, C4, m4, e4, rfl, hfin⟩ := hcut
    obtain ⟨Us, hUs⟩ : ∃ U, U = wc.heap.size := ⟨_, rfl⟩
    have hXc : X < Us := by rw [hUs]; exact lt_of_block hfin.g2
    have HXC := Lib.hid hXc
    have HU0 := Lib.hid (Nat.le_of_eq hUs)
    have HFC := Lib.hid hfin
    clear hfin hXc hUs
    go_upto_block 0 with fail
    go_cut [6] (fun _i wr => ∃ (B1 : Option Addr) (n1 b1 : Nat), OwnC 63 3 labF Us wr (.slice B1 n1 b1) ((l.take k).map labCut) ∧ Fin3 w (.cells #[.slice A1 l.length c1, .slice A2 h.length c2, .slice A3 n3 c3, .slice A4 n4 c4] 27 (0, 0)) (.cells #[.slice none 0 0, .slice none 0 0, .slice none 0 0, .slice none 0 0] 27 (0, 0)) X (.cells #[(.slice B1 n1 b1), (.slice none 0 0), .slice C3 m3 e3, .slice C4 m4 e4] 27 (0, 0)) wr ∧ Us ≤ wr.heap.size)
    case first =>
      go_wp2_with fail
      go_loopw [6] (fun i wr => ∃ (j : Nat) (B1 : Option Addr) (n1 b1 : Nat), j ≤ l.length ∧ j ≤ k ∧ i = .int .i64 j ∧ OwnC 63 3 labF Us wr (.slice B1 n1 b1) ((l.take j).map labCut) ∧ Fin3 w (.cells #[.slice A1 l.length c1, .slice A2 h.length c2, .slice A3 n3 c3, .slice A4 n4 c4] 27 (0, 0)) (.cells #[.slice none 0 0, .slice none 0 0, .slice none 0 0, .slice none 0 0] 27 (0, 0)) X (.cells #[(.slice B1 n1 b1), (.slice none 0 0), .slice C3 m3 e3, .slice C4 m4 e4] 27 (0, 0)) wr ∧ Us ≤ wr.heap.size) (fun i _ => l.length - (RowKit.intOf i).toNat)
      case atStart => exact ⟨0, none, 0, 0, Nat.zero_le _, Nat.zero_le _, rfl, OwnC.nil _ _ _ _ _, HFC.out, HU0.out⟩
      case round =>
        obtain ⟨j, B1, n1, b1, hj, hjk, rfl, hown, hfin, hus⟩ := hrel
        have HOWN := Lib.hid hown
        have HF := Lib.hid hfin
        have HUS := Lib.hid hus

        have hXr := lt_of_block hfin.g2
        have h0r := lt_of_block hfin.g0
        have y0 : wr.cell? ⟨w.heap.size, 0, none⟩ = some (.slice A1 l.length c1) := by rw [Lib.cell_of_heap hfin.g0]; rfl
        by_cases hjt : j < l.length
        · have hi : (j : Int) < (l.length : Int) := by omega
          have hi0 : (0 : Int) ≤ (j : Int) := by omega
          by_cases hjk2 : j < k
          · have hi2 : (j : Int) < (k : Int) := by omega
            obtain ⟨b, off, rfl, hbl, hc⟩ := HC1.out (by intro e; rw [e] at hjt; simp at hjt)
            have x0 : wr.cell? ⟨b, off + j * 3, none⟩ = some (vs l[j].key) := (hfin.gb.cell (p := ⟨b, off + j * 3, none⟩) hbl).trans (hc j hjt 0 _ rfl)
            have x1 : wr.cell? ⟨b, off + j * 3 + 1, none⟩ = some (vs l[j].num) := (hfin.gb.cell (p := ⟨b, off + j * 3 + 1, none⟩) hbl).trans (hc j hjt 1 _ rfl)
            have x2 : wr.cell? ⟨b, off + j * 3 + 2, none⟩ = some (.int .i64 l[j].page) := (hfin.gb.cell (p := ⟨b, off + j * 3 + 2, none⟩) hbl).trans (hc j hjt 2 _ rfl)
            obtain ⟨ok1, ok2⟩ := OK1.out l[j] (List.getElem_mem hjt)
            have HT : Hid (l.take (j + 1) = l.take j ++ [l[j]]) := Lib.hid (List.take_succ_eq_append_getElem hjt)
            have hlen : ((l.take j).map labCut).length < 1000000 := by simp; omega
            generalize l[j] = x at *
            obtain ⟨i0, hi0', hz0, hz1, hz2⟩ := info_parts slInfo
            have y2 : (wr.alloc (.cells #[.string ((bs x.key).extract 0 (min ((bs x.key).size : Int) 80).toNat), .string ((bs x.num).extract 0 (min ((bs x.num).size : Int) 80).toNat), .int .i64 x.page] 63)).cell? ⟨X, 0, none⟩ = some (.slice B1 n1 b1) := by rw [Lib.cell_of_heap ((Below.heap_alloc _ _ _ hXr).trans hfin.g2)]; rfl
            have hbA : Below wr.heap.size wr (wr.alloc (.cells #[.string ((bs x.key).extract 0 (min ((bs x.key).size : Int) 80).toNat), .string ((bs x.num).extract 0 (min ((bs x.num).size : Int) 80).toNat), .int .i64 x.page] 63)) := (Below.refl _ _).alloc (Nat.le_refl _) _
            have HOA := Lib.hid (hown.below hbA)
            have HSZ : Hid (Us ≤ (wr.alloc (.cells #[.string ((bs x.key).extract 0 (min ((bs x.key).size : Int) 80).toNat), .string ((bs x.num).extract 0 (min ((bs x.num).size : Int) 80).toNat), .int .i64 x.page] 63)).heap.size) := Lib.hid (by have := hus; simp; omega)
            have HX2 := Lib.hid hfin.hX
            clear hc hown hfin hus hbA hjt 
            go_wp2_with (at_builtin; refine wpList_appN (by rfl) (.tmp 53) (.tmp 55) 23 (by rfl) Us 63 i0 _ 3 40 Tryz.underlying23 hi0' hz0 hz1 hz2 (by rfl) (by decide) (.slice B1 n1 b1) ((l.take j).map labCut).length (((l.take j).map labCut).flatMap labF) [.string ((bs x.key).extract 0 (min ((bs x.key).size : Int) 80).toNat), .string ((bs x.num).extract 0 (min ((bs x.num).size : Int) 80).toNat), .int .i64 x.page] rfl (by simp [Value.oneCell']) (by rfl) (wr.heap.size + 1) (by simp) (by rfl) HOA.out HSZ.out (by simp only [maxLen]; omega) (by omega) ?_; intro v' w' q1 q2 q3; obtain ⟨A', c', hv'⟩ := own_slice q1; obtain ⟨A', n', c', rfl⟩ : ∃ A n c, v' = .slice A n c := ⟨_, _, _, hv'⟩; clear hv'; have hk' : ∀ i, i < wr.heap.size → i < Us → w'.heap[i]? = wr.heap[i]? := (fun i h1 h2 => (q2.block i (by simp; omega) (fun e => by have := (World.ownsRow.lt HOA.out i e.symm).1; omega)).trans (Below.heap_alloc _ _ _ h1)); have k2 := (hk' _ hXr HXC.out).trans HF.out.g2; have z2 : w'.cell? ⟨X, 0, none⟩ = some (.slice B1 n1 b1) := (by rw [Lib.cell_of_heap k2]; rfl); have zf := Lib.frozen_of_heap k2 0; have HQ := Lib.hid (And.intro q1 (And.intro q2 (And.intro q3 (And.intro hk' k2)))); clear q1 q2 q3 hk' k2)
            go_roundw
            case rel =>
              obtain ⟨q1, q2, q3, hk', k2⟩ := HQ.out
              have hoth : ∀ i, i ≠ X → (w'.setCell ⟨X, 0, none⟩ (.slice A' n' c')).heap[i]? = w'.heap[i]? := fun i hi => Below.heap_setCell _ _ _ _ hi
              refine ⟨j + 1, A', n', c', by omega, by omega, by go_num, ?_, ⟨?_, ?_, ?_, HX2.out, ?_⟩, ?_⟩
              · rw [HT.out]
                simp only [ext80] at q1
                have h9 : OwnC 63 3 labF Us w' (.slice A' n' c') ((l.take j ++ [x]).map labCut) := by simpa [OwnC, labF, labCut, vs] using q1
                exact h9.heap (fun i hi => hoth i (by have := (h9.lt i hi).1; have := HXC.out; omega))
              · rw [hoth _ (by have := HX2.out; omega)]; exact (hk' _ h0r (by have := HXC.out; have := HX2.out; omega)).trans HF.out.g0
              · rw [hoth _ (by have := HX2.out; omega)]; exact (hk' _ (lt_of_block HF.out.g1) (by have := HXC.out; have := HX2.out; omega)).trans HF.out.g1
              · exact cells_set (j := 0) k2 _
              · exact ((HF.out.gb.alloc HF.out.gb.size _).grown q2 (by have := HF.out.gb.size; simp; omega) (fun i hi => by have := (World.ownsRow.lt HOA.out i hi).1; have := HXC.out; have := HX2.out; omega)).setCell (p := ⟨X, 0, none⟩) (by show w.heap.size ≤ X; have := HX2.out; omega) _
              · rw [World.size_setCell]; have := q2.size; simp at this; have := HUS.out; omega
            case measure => simp [RowKit.intOf]; omega
          · obtain rfl : j = k := by omega
            have hi2 : ¬ (j : Int) < (j : Int) := by omega
            have HEND := Lib.hid hown
            clear hown hfin hus
            go_wp2_with fail
            go_meet
            exact ⟨B1, n1, b1, HEND.out, HF.out, HUS.out⟩
        · obtain rfl : j = l.length := by omega
          have hi : ¬ (l.length : Int) < (l.length : Int) := by omega
          have HEND : Hid (OwnC 63 3 labF Us wr (.slice B1 n1 b1) ((l.take k).map labCut)) := Lib.hid (by rw [List.take_of_length_le hjk]; rw [List.take_length] at hown; exact hown)
          clear hown hfin hus
          go_wp2_with fail
          go_meet
          exact ⟨B1, n1, b1, HEND.out, HF.out, HUS.out⟩
    case rest =>
      obtain ⟨X1, n7, y1, hx, hfin, hus⟩ := hcut
      have HXO := Lib.hid hx
      have HF1 := Lib.hid hfin
      have HUS1 := Lib.hid hus
      clear hx hfin hus
      go_wp2_with fail
      go_loopw [8] (fun i wr => ∃ (j : Nat) (B1 : Option Addr) (n1 b1 : Nat), j ≤ h.length ∧ j ≤ k ∧ i = .int .i64 j ∧ OwnC 65 4 hdF Us wr (.slice B1 n1 b1) ((h.take j).map hdCut) ∧ OwnC 63 3 labF Us wr (.slice X1 n7 y1) ((l.take k).map labCut) ∧ (∀ k, (Value.slice X1 n7 y1).ownBlock = some k → (Value.slice B1 n1 b1).ownBlock ≠ some k) ∧ Fin3 w (.cells #[.slice A1 l.length c1, .slice A2 h.length c2, .slice A3 n3 c3, .slice A4 n4 c4] 27 (0, 0)) (.cells #[.slice none 0 0, .slice none 0 0, .slice none 0 0, .slice none 0 0] 27 (0, 0)) X (.cells #[(.slice X1 n7 y1), (.slice B1 n1 b1), .slice C3 m3 e3, .slice C4 m4 e4] 27 (0, 0)) wr ∧ Us ≤ wr.heap.size) (fun i _ => h.length - (RowKit.intOf i).toNat)
      case atStart => exact ⟨0, none, 0, 0, Nat.zero_le _, Nat.zero_le _, rfl, OwnC.nil _ _ _ _ _, HXO.out, fun k _ e => (by cases e), HF1.out, HUS1.out⟩
      case round =>
        obtain ⟨j, B1, n1, b1, hj, hjk, rfl, hown, hown1, hdis, hfin, hus⟩ := hrel
        have HOWN := Lib.hid hown
        have HF := Lib.hid hfin
        have HUS := Lib.hid hus
        have HOWN1 := Lib.hid hown1; have HDIS := Lib.hid hdis
        have hXr := lt_of_block hfin.g2
        have h0r := lt_of_block hfin.g0
        have y0 : wr.cell? ⟨w.heap.size, 1, none⟩ = some (.slice A2 h.length c2) := by rw [Lib.cell_of_heap hfin.g0]; rfl
        by_cases hjt : j < h.length
        · have hi : (j : Int) < (h.length : Int) := by omega
          have hi0 : (0 : Int) ≤ (j : Int) := by omega
          by_cases hjk2 : j < k
          · have hi2 : (j : Int) < (k : Int) := by omega
            obtain ⟨b, off, rfl, hbl, hc⟩ := HC2.out (by intro e; rw [e] at hjt; simp at hjt)
            have x0 : wr.cell? ⟨b, off + j * 4, none⟩ = some (.int .i64 h[j].level) := (hfin.gb.cell (p := ⟨b, off + j * 4, none⟩) hbl).trans (hc j hjt 0 _ rfl)
            have x1 : wr.cell? ⟨b, off + j * 4 + 1, none⟩ = some (vs h[j].num) := (hfin.gb.cell (p := ⟨b, off + j * 4 + 1, none⟩) hbl).trans (hc j hjt 1 _ rfl)
            have x2 : wr.cell? ⟨b, off + j * 4 + 2, none⟩ = some (vs h[j].title) := (hfin.gb.cell (p := ⟨b, off + j * 4 + 2, none⟩) hbl).trans (hc j hjt 2 _ rfl)
            have x3 : wr.cell? ⟨b, off + j * 4 + 3, none⟩ = some (.int .i64 h[j].page) := (hfin.gb.cell (p := ⟨b, off + j * 4 + 3, none⟩) hbl).trans (hc j hjt 3 _ rfl)
            obtain ⟨ok1, ok2⟩ := OK2.out h[j] (List.getElem_mem hjt)
            have HT : Hid (h.take (j + 1) = h.take j ++ [h[j]]) := Lib.hid (List.take_succ_eq_append_getElem hjt)
            have hlen : ((h.take j).map hdCut).length < 1000000 := by simp; omega
            generalize h[j] = x at *
            obtain ⟨i0, hi0', hz0, hz1, hz2⟩ := info_parts shInfo
            have y2 : (wr.alloc (.cells #[.int .i64 x.level, .string ((bs x.num).extract 0 (min ((bs x.num).size : Int) 80).toNat), .string ((bs x.title).extract 0 (min ((bs x.title).size : Int) 80).toNat), .int .i64 x.page] 65)).cell? ⟨X, 1, none⟩ = some (.slice B1 n1 b1) := by rw [Lib.cell_of_heap ((Below.heap_alloc _ _ _ hXr).trans hfin.g2)]; rfl
            have hbA : Below wr.heap.size wr (wr.alloc (.cells #[.int .i64 x.level, .string ((bs x.num).extract 0 (min ((bs x.num).size : Int) 80).toNat), .string ((bs x.title).extract 0 (min ((bs x.title).size : Int) 80).toNat), .int .i64 x.page] 65)) := (Below.refl _ _).alloc (Nat.le_refl _) _
            have HOA := Lib.hid (hown.below hbA)
            have HSZ : Hid (Us ≤ (wr.alloc (.cells #[.int .i64 x.level, .string ((bs x.num).extract 0 (min ((bs x.num).size : Int) 80).toNat), .string ((bs x.title).extract 0 (min ((bs x.title).size : Int) 80).toNat), .int .i64 x.page] 65)).heap.size) := Lib.hid (by have := hus; simp; omega)
            have HX2 := Lib.hid hfin.hX
            clear hc hown hfin hus hbA hjt hown1 hdis
            go_wp2_with (at_builtin; refine wpList_appN (by rfl) (.tmp 92) (.tmp 94) 24 (by rfl) Us 65 i0 _ 4 48 Tryz.underlying24 hi0' hz0 hz1 hz2 (by rfl) (by decide) (.slice B1 n1 b1) ((h.take j).map hdCut).length (((h.take j).map hdCut).flatMap hdF) [.int .i64 x.level, .string ((bs x.num).extract 0 (min ((bs x.num).size : Int) 80).toNat), .string ((bs x.title).extract 0 (min ((bs x.title).size : Int) 80).toNat), .int .i64 x.page] rfl (by simp [Value.oneCell']) (by rfl) (wr.heap.size + 1) (by simp) (by rfl) HOA.out HSZ.out (by simp only [maxLen]; omega) (by omega) ?_; intro v' w' q1 q2 q3; obtain ⟨A', c', hv'⟩ := own_slice q1; obtain ⟨A', n', c', rfl⟩ : ∃ A n c, v' = .slice A n c := ⟨_, _, _, hv'⟩; clear hv'; have hk' : ∀ i, i < wr.heap.size → i < Us → w'.heap[i]? = wr.heap[i]? := (fun i h1 h2 => (q2.block i (by simp; omega) (fun e => by have := (World.ownsRow.lt HOA.out i e.symm).1; omega)).trans (Below.heap_alloc _ _ _ h1)); have k2 := (hk' _ hXr HXC.out).trans HF.out.g2; have z2 : w'.cell? ⟨X, 1, none⟩ = some (.slice B1 n1 b1) := (by rw [Lib.cell_of_heap k2]; rfl); have zf := Lib.frozen_of_heap k2 1; have HQ := Lib.hid (And.intro q1 (And.intro q2 (And.intro q3 (And.intro hk' k2)))); clear q1 q2 q3 hk' k2)
            go_roundw
            case rel =>
              obtain ⟨q1, q2, q3, hk', k2⟩ := HQ.out
              have hoth : ∀ i, i ≠ X → (w'.setCell ⟨X, 1, none⟩ (.slice A' n' c')).heap[i]? = w'.heap[i]? := fun i hi => Below.heap_setCell _ _ _ _ hi
              refine ⟨j + 1, A', n', c', by omega, by omega, by go_num, ?_, ?_, ?_, ⟨?_, ?_, ?_, HX2.out, ?_⟩, ?_⟩
              · rw [HT.out]
                simp only [ext80] at q1
                have h9 : OwnC 65 4 hdF Us w' (.slice A' n' c') ((h.take j ++ [x]).map hdCut) := by simpa [OwnC, hdF, hdCut, vs] using q1
                exact h9.heap (fun i hi => hoth i (by have := (h9.lt i hi).1; have := HXC.out; omega))
              · refine (HOWN1.out.below (Below.refl _ _)).heap (fun i hi => ?_)
                have h8 := HOWN1.out.lt i hi
                have h7 := HXC.out
                rw [hoth i (by omega)]
                refine (q2.block i (by simp; omega) (fun e => ?_)).trans (Below.heap_alloc _ _ _ h8.2)
                exact HDIS.out i hi e.symm
              · intro i hi1 hi2
                have h8 := HOWN1.out.lt i hi1
                rcases q3 i hi2 with h9 | h9
                · exact HDIS.out i hi1 h9
                · simp at h9; omega
              · rw [hoth _ (by have := HX2.out; omega)]; exact (hk' _ h0r (by have := HXC.out; have := HX2.out; omega)).trans HF.out.g0
              · rw [hoth _ (by have := HX2.out; omega)]; exact (hk' _ (lt_of_block HF.out.g1) (by have := HXC.out; have := HX2.out; omega)).trans HF.out.g1
              · exact cells_set (j := 1) k2 _
              · exact ((HF.out.gb.alloc HF.out.gb.size _).grown q2 (by have := HF.out.gb.size; simp; omega) (fun i hi => by have := (World.ownsRow.lt HOA.out i hi).1; have := HXC.out; have := HX2.out; omega)).setCell (p := ⟨X, 1, none⟩) (by show w.heap.size ≤ X; have := HX2.out; omega) _
              · rw [World.size_setCell]; have := q2.size; simp at this; have := HUS.out; omega
            case measure => simp [RowKit.intOf]; omega
          · obtain rfl : j = k := by omega
            have hi2 : ¬ (j : Int) < (j : Int) := by omega
            have HEND := Lib.hid hown
            have u0 : wr.cell? ⟨X, 0, none⟩ = some (.slice X1 n7 y1) := by rw [Lib.cell_of_heap hfin.g2]; rfl
            have u1 : wr.cell? ⟨X, 1, none⟩ = some (.slice B1 n1 b1) := by rw [Lib.cell_of_heap hfin.g2]; rfl
            have u2 : wr.cell? ⟨X, 2, none⟩ = some (.slice C3 m3 e3) := by rw [Lib.cell_of_heap hfin.g2]; rfl
            have u3 : wr.cell? ⟨X, 3, none⟩ = some (.slice C4 m4 e4) := by rw [Lib.cell_of_heap hfin.g2]; rfl
            have d0 : wr.cell? ⟨w.heap.size + 1, 0, none⟩ = some (.slice none 0 0) := by rw [Lib.cell_of_heap hfin.g1]; rfl
            have d1 : wr.cell? ⟨w.heap.size + 1, 1, none⟩ = some (.slice none 0 0) := by rw [Lib.cell_of_heap hfin.g1]; rfl
            have d2 : wr.cell? ⟨w.heap.size + 1, 2, none⟩ = some (.slice none 0 0) := by rw [Lib.cell_of_heap hfin.g1]; rfl
            have d3 : wr.cell? ⟨w.heap.size + 1, 3, none⟩ = some (.slice none 0 0) := by rw [Lib.cell_of_heap hfin.g1]; rfl
            have f0 := Lib.frozen_of_heap hfin.g1 0
            have f1 := Lib.frozen_of_heap hfin.g1 1
            have f2 := Lib.frozen_of_heap hfin.g1 2
            have f3 := Lib.frozen_of_heap hfin.g1 3
            clear hown hown1 hdis hfin hus
            go_wp2_with fail
            have a0 := cells_set (j := 0) HF.out.g1 (.slice X1 n7 y1)
            have a1 := cells_set (j := 1) a0 (.slice B1 n1 b1)
            have a2 := cells_set (j := 2) a1 (.slice C3 m3 e3)
            have a3 := cells_set (j := 3) a2 (.slice C4 m4 e4)
            have g0 := Lib.cell_of_heap a3 0
            have g1 := Lib.cell_of_heap a3 1
            have g2 := Lib.cell_of_heap a3 2
            have g3 := Lib.cell_of_heap a3 3
            simp only [List.setIfInBounds_toArray, List.set_cons_zero, List.set_cons_succ, List.getElem?_toArray, List.getElem?_cons_succ, List.getElem?_cons_zero] at g0 g1 g2 g3
            have hX2 := HF.out.hX
            have hXC := HXC.out
            have hoth : ∀ k, k ≠ w.heap.size + 1 → ((((wr.setCell ⟨w.heap.size + 1, 0, none⟩ (.slice X1 n7 y1)).setCell ⟨w.heap.size + 1, 1, none⟩ (.slice B1 n1 b1)).setCell ⟨w.heap.size + 1, 2, none⟩ (.slice C3 m3 e3)).setCell ⟨w.heap.size + 1, 3, none⟩ (.slice C4 m4 e4)).heap[k]? = wr.heap[k]? := fun k hk => by
              have hh : ∀ (w' : World) (i : Nat) (x : Value), (w'.setCell ⟨w.heap.size + 1, i, none⟩ x).heap[k]? = w'.heap[k]? := fun w' i x => Below.heap_setCell _ _ _ _ hk
              rw [hh, hh, hh, hh]
            refine bodyPost_ret (v := .agg #[.slice X1 n7 y1, .slice B1 n1 b1, .slice C3 m3 e3, .slice C4 m4 e4]) (by
              simp [results, Tryz.f6, go_sem, g0, g1, g2, g3]) rfl ⟨_, _, _, _, _, _, _, _, rfl, ?_, ?_, ?_⟩
            · rw [← List.map_take]; exact (HOWN1.out.heap (fun k hk => hoth k (by have := (HOWN1.out.lt k hk).1; omega))).mono (b := w.heap.size) (by omega)
            · rw [← List.map_take]; exact (HEND.out.heap (fun k hk => hoth k (by have := (HEND.out.lt k hk).1; omega))).mono (b := w.heap.size) (by omega)
            · exact (((HF.out.gb.setCell (p := ⟨w.heap.size + 1, 0, none⟩) (by simp) _).setCell (p := ⟨w.heap.size + 1, 1, none⟩) (by simp) _).setCell (p := ⟨w.heap.size + 1, 2, none⟩) (by simp) _).setCell (p := ⟨w.heap.size + 1, 3, none⟩) (by simp) _
        · obtain rfl : j = h.length := by omega
          have hi : ¬ (h.length : Int) < (h.length : Int) := by omega
          have HEND : Hid (OwnC 65 4 hdF Us wr (.slice B1 n1 b1) ((h.take k).map hdCut)) := Lib.hid (by rw [List.take_of_length_le hjk]; rw [List.take_length] at hown; exact hown)
          have u0 : wr.cell? ⟨X, 0, none⟩ = some (.slice X1 n7 y1) := by rw [Lib.cell_of_heap hfin.g2]; rfl
          have u1 : wr.cell? ⟨X, 1, none⟩ = some (.slice B1 n1 b1) := by rw [Lib.cell_of_heap hfin.g2]; rfl
          have u2 : wr.cell? ⟨X, 2, none⟩ = some (.slice C3 m3 e3) := by rw [Lib.cell_of_heap hfin.g2]; rfl
          have u3 : wr.cell? ⟨X, 3, none⟩ = some (.slice C4 m4 e4) := by rw [Lib.cell_of_heap hfin.g2]; rfl
          have d0 : wr.cell? ⟨w.heap.size + 1, 0, none⟩ = some (.slice none 0 0) := by rw [Lib.cell_of_heap hfin.g1]; rfl
          have d1 : wr.cell? ⟨w.heap.size + 1, 1, none⟩ = some (.slice none 0 0) := by rw [Lib.cell_of_heap hfin.g1]; rfl
          have d2 : wr.cell? ⟨w.heap.size + 1, 2, none⟩ = some (.slice none 0 0) := by rw [Lib.cell_of_heap hfin.g1]; rfl
          have d3 : wr.cell? ⟨w.heap.size + 1, 3, none⟩ = some (.slice none 0 0) := by rw [Lib.cell_of_heap hfin.g1]; rfl
          have f0 := Lib.frozen_of_heap hfin.g1 0
          have f1 := Lib.frozen_of_heap hfin.g1 1
          have f2 := Lib.frozen_of_heap hfin.g1 2
          have f3 := Lib.frozen_of_heap hfin.g1 3
          clear hown hown1 hdis hfin hus
          go_wp2_with fail
          have a0 := cells_set (j := 0) HF.out.g1 (.slice X1 n7 y1)
          have a1 := cells_set (j := 1) a0 (.slice B1 n1 b1)
          have a2 := cells_set (j := 2) a1 (.slice C3 m3 e3)
          have a3 := cells_set (j := 3) a2 (.slice C4 m4 e4)
          have g0 := Lib.cell_of_heap a3 0
          have g1 := Lib.cell_of_heap a3 1
          have g2 := Lib.cell_of_heap a3 2
          have g3 := Lib.cell_of_heap a3 3
          simp only [List.setIfInBounds_toArray, List.set_cons_zero, List.set_cons_succ, List.getElem?_toArray, List.getElem?_cons_succ, List.getElem?_cons_zero] at g0 g1 g2 g3
          have hX2 := HF.out.hX
          have hXC := HXC.out
          have hoth : ∀ k, k ≠ w.heap.size + 1 → ((((wr.setCell ⟨w.heap.size + 1, 0, none⟩ (.slice X1 n7 y1)).setCell ⟨w.heap.size + 1, 1, none⟩ (.slice B1 n1 b1)).setCell ⟨w.heap.size + 1, 2, none⟩ (.slice C3 m3 e3)).setCell ⟨w.heap.size + 1, 3, none⟩ (.slice C4 m4 e4)).heap[k]? = wr.heap[k]? := fun k hk => by
            have hh : ∀ (w' : World) (i : Nat) (x : Value), (w'.setCell ⟨w.heap.size + 1, i, none⟩ x).heap[k]? = w'.heap[k]? := fun w' i x => Below.heap_setCell _ _ _ _ hk
            rw [hh, hh, hh, hh]
          refine bodyPost_ret (v := .agg #[.slice X1 n7 y1, .slice B1 n1 b1, .slice C3 m3 e3, .slice C4 m4 e4]) (by
            simp [results, Tryz.f6, go_sem, g0, g1, g2, g3]) rfl ⟨_, _, _, _, _, _, _, _, rfl, ?_, ?_, ?_⟩
          · rw [← List.map_take]; exact (HOWN1.out.heap (fun k hk => hoth k (by have := (HOWN1.out.lt k hk).1; omega))).mono (b := w.heap.size) (by omega)
          · rw [← List.map_take]; exact (HEND.out.heap (fun k hk => hoth k (by have := (HEND.out.lt k hk).1; omega))).mono (b := w.heap.size) (by omega)
          · exact (((HF.out.gb.setCell (p := ⟨w.heap.size + 1, 0, none⟩) (by simp) _).setCell (p := ⟨w.heap.size + 1, 1, none⟩) (by simp) _).setCell (p := ⟨w.heap.size + 1, 2, none⟩) (by simp) _).setCell (p := ⟨w.heap.size + 1, 3, none⟩) (by simp) _
end Go.Proofs.YtjmmfihmamcopaaGreatDoor
