/- number: step. -/
import Derived.Test.YtjmmfihmamcopaaGreatDoorNbK
namespace Go.Proofs.YtjmmfihmamcopaaGreatDoor
open Go.RowKit Tx Nb

section
variable {B wb : Nat} {w0 w : World} {k : Cst} {s : St}
theorem Is.own_to {w' : World} {own' : Cn} (h : Is B w0 w wb k s) (hm : MapN w' 9 k.mb own') (hg : w.grownBy w' (some k.mb)) : Is B w0 w' wb k { s with own := own' } := by
  obtain ⟨v, hw⟩ := h
  have hk : ∀ j, j < w.heap.size → j ≠ k.mb → w'.heap[j]? = w.heap[j]? := fun j h1 h2 => hg.block j h1 (fun e => h2 (Option.some.inj e))
  refine ⟨v, Nat.le_trans hw.hB hg.size, hw.bel.grown hg hw.hB (fun j hj => by injection hj with hj; subst hj; exact hw.mbB), hw.wbB, hw.mbB, hw.ne, hw.n10, (hk wb (hw.lt _ (k.mem_wb wb)) hw.ne).trans hw.blk,
    hw.ow.same (fun j h1 h2 => hk j h1 (fun e => h2 (e ▸ k.mem_mb wb))), hm, hw.res_to (fun p hp => hk p.1 (hw.lt _ (k.mem_res wb hp)) (hw.res p hp).2.2)⟩
theorem Is.map (h : Is B w0 w wb k s) : MapN w 9 k.mb s.own := by
  obtain ⟨v, hw⟩ := h
  exact hw.map
theorem cnZero (w : World) : (zeroValue 76).run Tryz.prog w = .ok (cnVal 0) w := Tryz.zeroValue76 w
theorem Is.look (h : Is B w0 w wb k s) (c : Bool) (t : Bs) (ht : t.length ≤ 1000) : (Instr.lookup 74 (.map (some k.mb)) (.string (bs t)) c).run Tryz.prog w = .ok (if c then .tuple #[.agg #[.int .i64 ((cnGet s.own t).getD 0 : Nat)], .bool (cnGet s.own t).isSome] else .agg #[.int .i64 ((cnGet s.own t).getD 0 : Nat)]) w :=
  h.map.look Tryz.underlying9 Tryz.underlying74 (cnZero w) c t (by simp only [maxLen]; omega)
theorem Is.update (h : Is B w0 w wb k s) (hn : s.own.length < 1000000) (t : Bs) (ht : t.length ≤ 1000) (m : Nat) : ∃ w', (Instr.mapUpdate 74 (.map (some k.mb)) (.string (bs t)) (.agg #[.int .i64 m])).run Tryz.prog w = .ok () w' ∧ Is B w0 w' wb k { s with own := cnSet s.own t m } := by
  obtain ⟨w', h1, h2, h3⟩ := h.map.update Tryz.underlying9 Tryz.underlying74 (by simp only [maxLen]; omega) t (by simp only [maxLen]; omega) m
  exact ⟨w', h1, h.own_to h2 h3⟩
set_option maxRecDepth 100000 in
set_option maxHeartbeats 16000000 in
theorem step_any (h : Is B w0 w wb k s) (T : Nat) (hT : T ≤ 800000) (hd : Bd s T) (hg : ∀ wx, Below B w0 wx → Gl wx) (t : Bs) (ht : t.length ≤ 1000) :
    Calls Tryz.prog 30 #[.pointer (some ⟨wb, 0, none⟩), vs t] w fun e' w' => e' = .returned (.tuple #[]) ∧ Is B w0 w' wb k (Nb.step s t) := by
  obtain ⟨n, hn⟩ : ∃ n, n = (cnGet s.own t).getD 0 := ⟨_, rfl⟩
  have hnT : n ≤ T := by
    rw [hn]
    cases hc : cnGet s.own t with
    | none => simp
    | some m => exact hd.og t m hc
  have hlk := h.look true t ht
  rw [if_pos rfl, ← hn] at hlk
  have y21 : w.cell? ⟨wb, 21, none⟩ = some (.map (some k.mb)) := h.cells.1.2.2.2.2.2.1
  obtain ⟨w1, hw1⟩ : ∃ w1, w1 = w.alloc (.cells #[.int .i64 n] 76) := ⟨_, rfl⟩
  have hb1 : Below w.heap.size w w1 := by rw [hw1]; exact (Below.refl _ _).alloc (Nat.le_refl _) _
  have hnew : w1.heap[w.heap.size]? = some (.cells #[.int .i64 n] 76 (0, 0)) := by rw [hw1]; exact heap_alloc_new w _
  have hk := h.keep hb1 w.heap.size _ (Nat.le_refl _) hnew
  have HK1 := Lib.hid hk
  have z21 : w1.cell? ⟨wb, 21, none⟩ = some (.map (some k.mb)) := hk.cells.1.2.2.2.2.2.1
  have z0 : w1.cell? ⟨w.heap.size, 0, none⟩ = some (.int .i64 n) := by rw [Lib.cell_of_heap hnew]; rfl
  have hlen : (Builtin.len_ #[74] 3 #[.map (some k.mb)]).run Tryz.prog w1 = .ok (.int .i64 s.own.length) w1 := hk.map.len Tryz.underlying74 _
  have HW1 := Lib.hid hw1
  have HN := Lib.hid hn
  have HGL := Lib.hid hg
  have hol := hd.ow
  have HNT := Lib.hid (note_any hk 3 t (by have := hd.nt; omega))
  rw [hw1] at hlen z21
  by_cases hc : cnGet s.own t = none ∧ 20 ≤ s.own.length
  · have HR : Hid (Nb.step s t = Nb.note s 3 t) := Lib.hid (by unfold Nb.step; rw [if_pos hc])
    have h20 : (20 : Int) ≤ (s.own.length : Int) := by omega
    rw [hc.1] at hlk
    simp only [Option.isSome_none] at hlk
    clear h hd hg hk hb1 hnew hw1 hn hc z0
    go_enter Tryz.func30, Tryz.ntmps30
    go_wp2_with fail
    rw [← HW1.out]
    refine HNT.out.mono ?_
    rintro e w2 ⟨rfl, H2⟩
    have HK2 := Lib.hid H2
    clear H2
    go_wp2_with fail
    refine bodyPost_ret (results_none rfl _ _ _) rfl ?_
    exact ⟨rfl, by rw [HR.out]; exact Is.free (R := [(w.heap.size, (.cells #[.int .i64 n] 76 (0, 0)))]) HK2.out⟩
  · have HR : Hid (Nb.step s t = { s with own := cnSet s.own t (n + 1), c := { s.c with last := dig (n + 1 : Nat) } }) := Lib.hid (by unfold Nb.step; rw [if_neg hc, ← hn])
    have HMR := Lib.hid (fun wx => more_any (wb := wb) n (by omega) t wx)
    have hS0 : (fun wz : World => wz.cell? ⟨wb, 21, none⟩ = some (.map (some k.mb)) ∧ wz.cell? ⟨w.heap.size, 0, none⟩ = some (.int .i64 n)) w1.drew := ⟨by rw [← hw1] at z21; exact z21, z0⟩
    have HS0 := Lib.hid hS0
    have hif : (cnGet s.own t).isSome = true ∨ ((cnGet s.own t).isSome = false ∧ ¬ ((20 : Int) ≤ (s.own.length : Int))) := by
      cases hq : cnGet s.own t with
      | some m => exact .inl rfl
      | none => exact .inr ⟨rfl, fun h20 => hc ⟨hq, by omega⟩⟩
    clear h hd hg hk hb1 hnew hw1 hn hc z0 hS0
    go_enter Tryz.func30, Tryz.ntmps30
    go_upto_region 1 with fail
    go_cut [24] from 15 to 24 (fun bv wx => bv = .bool false ∧ wx = w1)
    case first =>
      rcases hif with hq | ⟨hq, h20⟩
      · rw [hq] at hlk
        generalize (cnGet s.own t).isSome = qq at *
        subst hq
        go_wp2_with fail
        go_meet
        exact ⟨rfl, HW1.out.symm⟩
      · rw [hq] at hlk
        generalize (cnGet s.own t).isSome = qq at *
        subst hq
        go_wp2_with fail
        go_meet
        exact ⟨rfl, HW1.out.symm⟩
    case rest =>
      obtain ⟨rfl, hwc⟩ := hcut
      obtain ⟨w1', hw1'⟩ : ∃ w1', w1' = wc := ⟨_, rfl⟩
      subst hw1'
      have HWC := Lib.hid hwc
      have hS0 := HS0.out
      rw [← hwc] at hS0
      clear hwc hlk y21 hlen z21 hif
      go_upto_region 3 with fail
      refine wp_region_headS 9 (fun wz : World => wz.cell? ⟨wb, 21, none⟩ = some (.map (some k.mb)) ∧ wz.cell? ⟨w.heap.size, 0, none⟩ = some (.int .i64 n)) (by kernel_rfl) (by kernel_rfl) ?_
      refine WS_take (i := 0) (v := ?va0) (by simp only [List.getElem?_toArray, List.getElem?_cons_zero]; rfl) (by decide) (by kernel_rfl) (by kernel_rfl) (by intro _ _ _ h; exact h) (Or.inl ⟨by rfl, ?hya0⟩) hS0 ?resta0
      case hya0 =>
        intro wx hx
        obtain ⟨s1, s2⟩ := hx
        go_simp
        try with_reducible rfl
      try simp only [Act.put, List.setIfInBounds_toArray, List.set_cons_zero, List.set_cons_succ]
      refine WS_take (i := 1) (v := ?va1) (by simp only [List.getElem?_toArray, List.getElem?_cons_succ, List.getElem?_cons_zero]; rfl) (by decide) (by kernel_rfl) (by kernel_rfl) (by intro _ _ _ h; exact h) (Or.inl ⟨by rfl, ?hya1⟩) hS0 ?resta1
      case hya1 =>
        intro wx hx
        obtain ⟨s1, s2⟩ := hx
        go_simp
        try with_reducible rfl
      try simp only [Act.put, List.setIfInBounds_toArray, List.set_cons_zero, List.set_cons_succ]
      refine WS_take (i := 2) (v := ?va2) (by simp only [List.getElem?_toArray, List.getElem?_cons_succ, List.getElem?_cons_zero]; rfl) (by decide) (by kernel_rfl) (by kernel_rfl) (by intro _ _ _ h; exact h) (Or.inl ⟨by rfl, ?hya2⟩) hS0 ?resta2
      case hya2 =>
        intro wx hx
        obtain ⟨s1, s2⟩ := hx
        go_simp
        try with_reducible rfl
      try simp only [Act.put, List.setIfInBounds_toArray, List.set_cons_zero, List.set_cons_succ]
      refine WS_take (i := 3) (v := ?va3) (by simp only [List.getElem?_toArray, List.getElem?_cons_succ, List.getElem?_cons_zero]; rfl) (by decide) (by kernel_rfl) (by kernel_rfl) (by intro _ _ _ h; exact h) (Or.inl ⟨by rfl, ?hya3⟩) hS0 ?resta3
      case hya3 =>
        intro wx hx
        obtain ⟨s1, s2⟩ := hx
        go_simp
        try with_reducible rfl
      try simp only [Act.put, List.setIfInBounds_toArray, List.set_cons_zero, List.set_cons_succ]
      refine WS_take (i := 4) (v := ?va4) (by simp only [List.getElem?_toArray, List.getElem?_cons_succ, List.getElem?_cons_zero]; rfl) (by decide) (by kernel_rfl) (by kernel_rfl) (by intro _ _ _ h; exact h) (Or.inl ⟨by rfl, ?hya4⟩) hS0 ?resta4
      case hya4 =>
        intro wx hx
        obtain ⟨s1, s2⟩ := hx
        go_simp
        try with_reducible rfl
      try simp only [Act.put, List.setIfInBounds_toArray, List.set_cons_zero, List.set_cons_succ]
      refine WS_take (i := 5) (v := ?va5) (by simp only [List.getElem?_toArray, List.getElem?_cons_succ, List.getElem?_cons_zero]; rfl) (by decide) (by kernel_rfl) (by kernel_rfl) (by intro _ _ _ h; exact h) (Or.inl ⟨by rfl, ?hya5⟩) hS0 ?resta5
      case hya5 =>
        intro wx hx
        obtain ⟨s1, s2⟩ := hx
        go_simp
        try with_reducible rfl
      try simp only [Act.put, List.setIfInBounds_toArray, List.set_cons_zero, List.set_cons_succ]
      refine WS_take (i := 6) (v := ?va6) (by simp only [List.getElem?_toArray, List.getElem?_cons_succ, List.getElem?_cons_zero]; rfl) (by decide) (by kernel_rfl) (by kernel_rfl) (by intro _ _ _ h; exact h) (Or.inl ⟨by rfl, ?hya6⟩) hS0 ?resta6
      case hya6 =>
        intro wx hx
        obtain ⟨s1, s2⟩ := hx
        go_simp
        try with_reducible rfl
      try simp only [Act.put, List.setIfInBounds_toArray, List.set_cons_zero, List.set_cons_succ]
      refine WS_take (i := 7) (v := ?va7) (by simp only [List.getElem?_toArray, List.getElem?_cons_succ, List.getElem?_cons_zero]; rfl) (by decide) (by kernel_rfl) (by kernel_rfl) (by intro _ _ _ h; exact h) (Or.inl ⟨by rfl, ?hya7⟩) hS0 ?resta7
      case hya7 =>
        intro wx hx
        obtain ⟨s1, s2⟩ := hx
        go_simp
        try with_reducible rfl
      try simp only [Act.put, List.setIfInBounds_toArray, List.set_cons_zero, List.set_cons_succ]
      refine WS_one (i := 8) (by simp only [List.getElem?_toArray, List.getElem?_cons_succ, List.getElem?_cons_zero]; rfl) (by decide) (by kernel_rfl) (fun K hK => (if_pos (by kernel_rfl)).mpr ?_)
      go_simp
      refine (HMR.out _).mono ?_
      rintro e w2 ⟨rfl, b2⟩
      dsimp only
      have HK2 := Lib.hid (HK1.out.below (show Below w1.heap.size w1 w2 by rw [← HWC.out]; exact ((Below.refl w1'.heap.size w1').drew).trans b2))
      have hS2 : (fun wz : World => wz.cell? ⟨wb, 21, none⟩ = some (.map (some k.mb)) ∧ wz.cell? ⟨w.heap.size, 0, none⟩ = some (.int .i64 n)) w2 := ⟨HK2.out.cells.1.2.2.2.2.2.1, by rw [Lib.cell_of_heap (HK2.out.res (p := (w.heap.size, (.cells #[.int .i64 n] 76 (0, 0)))) (by simp))]; rfl⟩
      refine hK _ _ hS2 ?_
      clear hK K b2 hS2 hS0
      try simp only [Act.put, List.setIfInBounds_toArray, List.set_cons_zero, List.set_cons_succ]
      refine WS_done (by kernel_rfl) ?_
      simp only [List.drop_succ_cons, List.drop_zero]
      obtain ⟨w3, hup, H3⟩ := HK2.out.update (by omega) t ht (n + 1)
      have HK3 := Lib.hid H3
      have z21 : w3.cell? ⟨wb, 21, none⟩ = some (.map (some k.mb)) := H3.cells.1.2.2.2.2.2.1
      have hlk2 := H3.look false t ht
      simp only [cnGet_set, if_true, Option.getD_some] at hlk2
      rw [if_neg (by simp)] at hlk2
      have HTX := Lib.hid (cnText_any ((n + 1 : Nat) : Int) w3 (HGL.out _ H3.bel))
      obtain ⟨n1, hn1⟩ : ∃ n1, n1 = n + 1 := ⟨_, rfl⟩
      rw [← hn1] at hlk2 HTX
      have HN1 := Lib.hid hn1
      rw [show ((n + 1 : Nat) : Int) = (n : Int) + 1 by omega] at hup
      clear H3 hn1
      go_wp2_with fail
      refine HTX.out.mono ?_
      rintro e w4 ⟨rfl, b4⟩
      have HK4 := Lib.hid (HK3.out.below b4)
      have f22 := HK4.out.cells.2 22
      have y22 := HK4.out.cells.1.2.2.2.2.2.2
      simp only at y22
      clear b4 hup hlk2 z21
      go_wp2_with fail
      go_end0
      refine ⟨rfl, ?_⟩
      have h9 := HK4.out.last (dig n1)
      have h8 := Is.free (k := k) (R := [(w.heap.size, (.cells #[.int .i64 n] 76 (0, 0)))]) h9
      rw [← HN1.out] at h8
      rw [HR.out, ← HN1.out]
      exact h8
end
end Go.Proofs.YtjmmfihmamcopaaGreatDoor
