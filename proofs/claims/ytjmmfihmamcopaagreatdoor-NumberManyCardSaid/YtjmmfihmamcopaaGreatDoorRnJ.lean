/- The reference's work: one. -/
import Derived.Test.YtjmmfihmamcopaaGreatDoorRnQ
namespace Go.Proofs.YtjmmfihmamcopaaGreatDoor
open Go.RowKit Tx Nb

section
variable {B wb : Nat} {w0 w w' : World} {k : RCst} {s : St}
theorem REnv.res {E : Env} {vb vi : Value} {R : List (Nat × Obj)} (h : REnv B w0 k vb vi E) : REnv B w0 { k with res := R } vb vi E := ⟨h.lb, h.hd, h.bb, h.ind, h.ok⟩
/-- A row that is new is set apart. -/
theorem Ri.fresh (h : Ri B w0 w wb k s) (hb : Below w.heap.size w w') {v : Value} {l : List Bs} (ho : OwnC 9 1 txF w.heap.size w' v l) :
    ∃ R, Ri B w0 w' wb { k with res := R ++ k.res } s ∧ ∀ wx s', Ri B w0 wx wb { k with res := R ++ k.res } s' → RowC 1 txF wx wx.heap.size v l := by
  rcases ho.2 with ⟨rfl, hn⟩ | ⟨g, cap, cur, rfl, hbg, hg, hnc, hcm, hcs, htake⟩
  · have hl : l = [] := List.eq_nil_of_length_eq_zero hn
    subst hl
    exact ⟨[], h.below hb, fun _ _ _ => ⟨0, by simp, by decide, .inl ⟨rfl, none, rfl⟩⟩⟩
  · refine ⟨[(g, .cells cur 9 (0, 0))], h.keep hb g _ hbg hg, fun wx s' hx => ?_⟩
    have h9 := hx.res (p := (g, .cells cur 9 (0, 0))) (by simp)
    have h8 : OwnC 9 1 txF w.heap.size wx (.slice (some ⟨g, 0, none⟩) l.length cap) l := ⟨ho.1, .inr ⟨g, cap, cur, rfl, hbg, h9, hnc, hcm, hcs, htake⟩⟩
    exact h8.rowC (fun _ => rfl)
theorem Ri.old {E : List Bs} {vi : Value} (hr : RowC 1 txF w0 B vi E) : ∀ wx s', Ri B w0 wx wb k s' → RowC 1 txF wx wx.heap.size vi E := fun _ _ hx => below_row hr hx.bel hx.hB
theorem rbibs_eq (s : St) (t : Bs) : Nb.close (noteIf { s with bibs := (once s.bibs t 8).1 } (once s.bibs t 8).2 t) = noteIf { Nb.close s with bibs := (once (Nb.close s).bibs t 8).1 } (once (Nb.close s).bibs t 8).2 t := by
  show _ = noteIf { Nb.close s with bibs := (once s.bibs t 8).1 } (once s.bibs t 8).2 t
  cases (once s.bibs t 8).2 <;> rfl
theorem dig_zero : dig ((0 : Nat) : Int) = [48] := by
  rw [dig_nat 0 (by decide), Lib.decDigits, dif_pos (by decide)]
  rfl
set_option maxRecDepth 100000 in
set_option maxHeartbeats 64000000 in
theorem rone_any {E : Env} {vb vi : Value} (h : Ri B w0 w wb k s) (hi : Inv s) (T : Nat) (hT : T ≤ 700000) (hT6 : 600 ≤ T) (hd : Bd s T) (hE : REnv B w0 k vb vi E) (x : It) (hx : x.s.length ≤ 100) :
    Calls Tryz.prog 23 #[.pointer (some ⟨wb, 0, none⟩), .agg #[.int .i64 x.kind, vs x.s], vb, vi] w fun e' w' => e' = .returned (.tuple #[]) ∧ Ri B w0 w' wb k (Nb.one E s x) := by
  obtain ⟨kd, t⟩ := x
  simp only at hx ⊢
  obtain ⟨A1, c1, rfl, _, _, _⟩ := hE.bb.shape
  obtain ⟨A2, c2, rfl, _, _, _⟩ := hE.ind.shape
  obtain ⟨w1, hw1⟩ : ∃ w1, w1 = w.alloc (.cells #[.int .i64 kd, vs t] 84) := ⟨_, rfl⟩
  have hb1 : Below w.heap.size w w1 := by rw [hw1]; exact (Below.refl _ _).alloc (Nat.le_refl _) _
  have hnew : w1.heap[w.heap.size]? = some (.cells #[.int .i64 kd, vs t] 84 (0, 0)) := by rw [hw1]; exact heap_alloc_new w _
  have hk := h.keep hb1 w.heap.size _ (Nat.le_refl _) hnew
  have HK1 := Lib.hid hk
  have HW1 := Lib.hid hw1
  have HE := Lib.hid hE
  have HE1 := Lib.hid (hE.res (R := (w.heap.size, (.cells #[.int .i64 kd, vs t] 84 (0, 0))) :: k.res))
  have HI := Lib.hid hi
  have HBD := Lib.hid hd
  clear h hd hi hE hb1 hnew hk hw1
  by_cases h1 : kd = 1
  · subst h1
    have HR : Hid (Nb.one E s ⟨1, t⟩ = Nb.say s t) := Lib.hid rfl
    go_enter Tryz.func23, Tryz.ntmps23
    go_wp2_with fail
    rw [← HW1.out]
    refine (rsay_any HK1.out HI.out T (by omega) HBD.out t (by omega)).mono ?_
    rintro e w9 ⟨rfl, H9⟩
    have HK9 := Lib.hid H9
    clear H9
    go_wp2_with fail
    go_end0
    exact ⟨rfl, by rw [HR.out]; exact Ri.free (k := k) (R := [(w.heap.size, (.cells #[.int .i64 1, vs t] 84 (0, 0)))]) HK9.out⟩
  by_cases h2 : kd = 2
  · subst h2
    have HR : Hid (Nb.one E s ⟨2, t⟩ = { s with c := { s.c with op := false } }) := Lib.hid rfl
    have f17 := HK1.out.cells.2 15
    have y17 := HK1.out.cells.1.2.1
    rw [HW1.out] at f17 y17
    go_enter Tryz.func23, Tryz.ntmps23
    go_wp2_with fail
    go_end0
    rw [← HW1.out]
    have HK9 := Lib.hid (HK1.out.op false)
    exact ⟨rfl, by rw [HR.out]; exact Ri.free (k := k) (R := [(w.heap.size, (.cells #[.int .i64 2, vs t] 84 (0, 0)))]) HK9.out⟩
  by_cases h3 : kd = 3
  · subst h3
    have HR : Hid (Nb.one E s ⟨3, t⟩ = Nb.lines (Nb.close s) []) := Lib.hid rfl
    go_enter Tryz.func23, Tryz.ntmps23
    go_wp2_with fail
    rw [← HW1.out]
    refine (rrows_any HK1.out T (by omega) hT6 HBD.out (.slice none 0 0) [] (fun _ _ _ => ⟨0, by simp, by decide, .inl ⟨rfl, none, rfl⟩⟩) (by simp) (by simp)).mono ?_
    rintro e w9 ⟨rfl, H9⟩
    have HK9 := Lib.hid H9
    clear H9
    go_wp2_with fail
    go_end0
    exact ⟨rfl, by rw [HR.out]; exact Ri.free (k := k) (R := [(w.heap.size, (.cells #[.int .i64 3, vs t] 84 (0, 0)))]) HK9.out⟩
  by_cases h4 : kd = 4
  · subst h4
    have HR : Hid (Nb.one E s ⟨4, t⟩ = Nb.head s ⟨1 + 3, t⟩) := Lib.hid rfl
    go_enter Tryz.func23, Tryz.ntmps23
    go_wp2_with fail
    rw [← HW1.out]
    refine (rhead_any HK1.out T (by omega) HBD.out 1 t (.inl rfl) hx).mono ?_
    rintro e w9 ⟨rfl, H9⟩
    have HK9 := Lib.hid H9
    clear H9
    go_wp2_with fail
    go_end0
    exact ⟨rfl, by rw [HR.out]; exact Ri.free (k := k) (R := [(w.heap.size, (.cells #[.int .i64 4, vs t] 84 (0, 0)))]) HK9.out⟩
  by_cases h5 : kd = 5
  · subst h5
    have HR : Hid (Nb.one E s ⟨5, t⟩ = Nb.head s ⟨2 + 3, t⟩) := Lib.hid rfl
    go_enter Tryz.func23, Tryz.ntmps23
    go_wp2_with fail
    rw [← HW1.out]
    refine (rhead_any HK1.out T (by omega) HBD.out 2 t (.inr rfl) hx).mono ?_
    rintro e w9 ⟨rfl, H9⟩
    have HK9 := Lib.hid H9
    clear H9
    go_wp2_with fail
    go_end0
    exact ⟨rfl, by rw [HR.out]; exact Ri.free (k := k) (R := [(w.heap.size, (.cells #[.int .i64 5, vs t] 84 (0, 0)))]) HK9.out⟩
  by_cases h6 : kd = 6
  · subst h6
    have HR : Hid (Nb.one E s ⟨6, t⟩ = Nb.label s t) := Lib.hid rfl
    go_enter Tryz.func23, Tryz.ntmps23
    go_wp2_with fail
    rw [← HW1.out]
    refine (rlabel_any HK1.out T (by omega) HBD.out t).mono ?_
    rintro e w9 ⟨rfl, H9⟩
    have HK9 := Lib.hid H9
    clear H9
    go_wp2_with fail
    go_end0
    exact ⟨rfl, by rw [HR.out]; exact Ri.free (k := k) (R := [(w.heap.size, (.cells #[.int .i64 6, vs t] 84 (0, 0)))]) HK9.out⟩
  by_cases h7 : kd = 7
  · subst h7
    have HR : Hid (Nb.one E s ⟨7, t⟩ = Nb.refer E s ⟨7, t⟩) := Lib.hid rfl
    go_enter Tryz.func23, Tryz.ntmps23
    go_wp2_with fail
    rw [← HW1.out]
    refine (rrefer_any HK1.out HI.out T (by omega) HBD.out HE1.out ⟨7, t⟩).mono ?_
    rintro e w9 ⟨rfl, H9⟩
    have HK9 := Lib.hid H9
    clear H9
    go_wp2_with fail
    go_end0
    exact ⟨rfl, by rw [HR.out]; exact Ri.free (k := k) (R := [(w.heap.size, (.cells #[.int .i64 7, vs t] 84 (0, 0)))]) HK9.out⟩
  by_cases h8 : kd = 8
  · subst h8
    have HR : Hid (Nb.one E s ⟨8, t⟩ = Nb.refer E s ⟨8, t⟩) := Lib.hid rfl
    go_enter Tryz.func23, Tryz.ntmps23
    go_wp2_with fail
    rw [← HW1.out]
    refine (rrefer_any HK1.out HI.out T (by omega) HBD.out HE1.out ⟨8, t⟩).mono ?_
    rintro e w9 ⟨rfl, H9⟩
    have HK9 := Lib.hid H9
    clear H9
    go_wp2_with fail
    go_end0
    exact ⟨rfl, by rw [HR.out]; exact Ri.free (k := k) (R := [(w.heap.size, (.cells #[.int .i64 8, vs t] 84 (0, 0)))]) HK9.out⟩
  by_cases h9 : kd = 9
  · subst h9
    have HR : Hid (Nb.one E s ⟨9, t⟩ = Nb.cite E s t) := Lib.hid rfl
    go_enter Tryz.func23, Tryz.ntmps23
    go_wp2_with fail
    rw [← HW1.out]
    refine (rcite_any HK1.out HI.out T (by omega) HBD.out HE1.out t).mono ?_
    rintro e w9 ⟨rfl, H9⟩
    have HK9 := Lib.hid H9
    clear H9
    go_wp2_with fail
    go_end0
    exact ⟨rfl, by rw [HR.out]; exact Ri.free (k := k) (R := [(w.heap.size, (.cells #[.int .i64 9, vs t] 84 (0, 0)))]) HK9.out⟩
  by_cases h10 : kd = 10
  · subst h10
    obtain ⟨v, hw⟩ := HK1.out
    obtain ⟨A8, c8, hv8⟩ : ∃ A c, v 8 = .slice A s.index.length c := own_slice (hw.ow.own 8 (by omega))
    have z8 : w1.cell? ⟨wb, 8, none⟩ = some (.slice A8 s.index.length c8) := (hw.cell 8).trans (by rw [← hv8]; rfl)
    have zx : w1.cell? ⟨w.heap.size, 1, none⟩ = some (vs t) := by rw [Lib.cell_of_heap (HK1.out.res (p := (w.heap.size, (.cells #[.int .i64 10, vs t] 84 (0, 0)))) (by simp))]; rfl
    have hix := HBD.out.ix
    have hia := HBD.out.ia
    have hwo := HBD.out.wo
    have HV8 := Lib.hid hv8
    have HW8 := Lib.hid hw
    have z8' := z8
    rw [HW1.out] at z8'
    clear hv8 hw
    by_cases h200 : 200 ≤ s.index.length
    · have h1i : (200 : Int) ≤ (s.index.length : Int) := by omega
      have HR : Hid (Nb.one E s ⟨10, t⟩ = Nb.note s 3 t) := Lib.hid (show Nb.indexT s t = _ by unfold Nb.indexT; rw [if_pos h200])
      clear h200 z8 zx
      go_enter Tryz.func23, Tryz.ntmps23
      go_wp2_with fail
      rw [← HW1.out]
      refine (rnote_any HK1.out 3 t (by have := HBD.out.nt; omega)).mono ?_
      rintro e w9 ⟨rfl, H9⟩
      have HK9 := Lib.hid H9
      clear H9
      go_wp2_with fail
      first | (refine bodyPost_ret (results_none rfl _ _ _) rfl ?_) | go_end0
      exact ⟨rfl, by rw [HR.out]; exact Ri.free (k := k) (R := [(w.heap.size, (.cells #[.int .i64 10, vs t] 84 (0, 0)))]) HK9.out⟩
    · have h1i : ¬ ((200 : Int) ≤ (s.index.length : Int)) := by omega
      have HR : Hid (Nb.one E s ⟨10, t⟩ = { s with index := s.index ++ [t], ia := s.ia ++ [Nb.here s] }) := Lib.hid (show Nb.indexT s t = _ by unfold Nb.indexT; rw [if_neg h200])
      obtain ⟨j0, hi0, hz0, hz1, hz2⟩ := info_parts strInfo
      have hbd : Below w1.heap.size w1 (w1.drew.alloc (.cells #[vs t] 9)) := ((Below.refl w1.heap.size w1).drew).alloc (Nat.le_refl _) _
      have hW1 := HW8.out.below hbd
      have HW9 := Lib.hid hW1
      have HD := Lib.hid (heap_alloc_new w1.drew (.cells #[vs t] 9))
      have hS0 : (fun wz : World => wz.cell? ⟨wb, 8, none⟩ = some (.slice A8 s.index.length c8) ∧ wz.cell? ⟨w.heap.size, 1, none⟩ = some (vs t)) w1.drew := ⟨z8, zx⟩
      have hS1 : (fun wz : World => wz.cell? ⟨wb, 8, none⟩ = some (.slice A8 s.index.length c8) ∧ wz.cell? ⟨w.heap.size, 1, none⟩ = some (vs t)) (w1.drew.alloc (.cells #[vs t] 9)) := ⟨(hW1.cell 8).trans (by rw [← HV8.out]; rfl), (hbd.cell (p := ⟨w.heap.size, 1, none⟩) (World.block_lt_of_cell? w1 _ zx)).trans zx⟩
      clear hW1 hbd h200
      go_enter Tryz.func23, Tryz.ntmps23
      go_upto_region 21 with fail
      rw [← HW1.out]
      clear z8'
      refine wp_region_headS 10 (fun wz : World => wz.cell? ⟨wb, 8, none⟩ = some (.slice A8 s.index.length c8) ∧ wz.cell? ⟨w.heap.size, 1, none⟩ = some (vs t)) (by kernel_rfl) (by kernel_rfl) ?_
      refine WS_take (i := 0) (v := ?va0) (by simp only [List.getElem?_toArray, List.getElem?_cons_zero]; rfl) (by decide) (by kernel_rfl) (by kernel_rfl) (by intro _ _ _ h; exact h) (Or.inl ⟨by rfl, ?hya0⟩) hS0 ?resta0
      case hya0 =>
        intro wx hx
        obtain ⟨s1, s2⟩ := hx
        go_simp
        try with_reducible rfl
      try simp only [Act.put, List.setIfInBounds_toArray, List.set_cons_zero, List.set_cons_succ]
      refine WS_take (i := 1) (v := ?va1) (by simp only [List.getElem?_toArray, List.getElem?_cons_succ, List.getElem?_cons_zero]; rfl) (by decide) (by kernel_rfl) (by kernel_rfl) (by intro _ _ _ h; exact h) (Or.inl ⟨by rfl, ?hya1⟩) hS0 ?resta1
      case hya1 =>
        intro wx hx
        obtain ⟨s1, s2⟩ := hx
        go_simp
        try with_reducible rfl
      try simp only [Act.put, List.setIfInBounds_toArray, List.set_cons_zero, List.set_cons_succ]
      refine WS_take (i := 2) (v := ?va2) (by simp only [List.getElem?_toArray, List.getElem?_cons_succ, List.getElem?_cons_zero]; rfl) (by decide) (by kernel_rfl) (by kernel_rfl) (by intro _ _ _ h; exact h) (Or.inl ⟨by rfl, ?hya2⟩) hS0 ?resta2
      case hya2 =>
        intro wx hx
        obtain ⟨s1, s2⟩ := hx
        go_simp
        try with_reducible rfl
      try simp only [Act.put, List.setIfInBounds_toArray, List.set_cons_zero, List.set_cons_succ]
      refine WS_take (i := 3) (v := ?va3) (by simp only [List.getElem?_toArray, List.getElem?_cons_succ, List.getElem?_cons_zero]; rfl) (by decide) (by kernel_rfl) (by kernel_rfl) (by intro _ _ _ h; exact h) (Or.inl ⟨by rfl, ?hya3⟩) hS0 ?resta3
      case hya3 =>
        intro wx hx
        obtain ⟨s1, s2⟩ := hx
        go_simp
        try with_reducible rfl
      try simp only [Act.put, List.setIfInBounds_toArray, List.set_cons_zero, List.set_cons_succ]
      refine WS_take (i := 4) (v := ?va4) (by simp only [List.getElem?_toArray, List.getElem?_cons_succ, List.getElem?_cons_zero]; rfl) (by decide) (by kernel_rfl) (by kernel_rfl) (by intro _ _ _ h; exact h) (Or.inl ⟨by rfl, ?hya4⟩) hS0 ?resta4
      case hya4 =>
        intro wx hx
        obtain ⟨s1, s2⟩ := hx
        go_simp
        try with_reducible rfl
      try simp only [Act.put, List.setIfInBounds_toArray, List.set_cons_zero, List.set_cons_succ]
      refine WS_take (i := 5) (v := ?va5) (by simp only [List.getElem?_toArray, List.getElem?_cons_succ, List.getElem?_cons_zero]; rfl) (by decide) (by kernel_rfl) (by kernel_rfl) (by intro _ _ _ h; exact h) (Or.inl ⟨by rfl, ?hya5⟩) hS0 ?resta5
      case hya5 =>
        intro wx hx
        obtain ⟨s1, s2⟩ := hx
        go_simp
        try with_reducible rfl
      try simp only [Act.put, List.setIfInBounds_toArray, List.set_cons_zero, List.set_cons_succ]
      refine WS_take (i := 6) (v := ?va6) (by simp only [List.getElem?_toArray, List.getElem?_cons_succ, List.getElem?_cons_zero]; rfl) (by decide) (by kernel_rfl) (by kernel_rfl) (by intro _ _ _ h; exact h) (Or.inl ⟨by rfl, ?hya6⟩) hS0 ?resta6
      case hya6 =>
        intro wx hx
        obtain ⟨s1, s2⟩ := hx
        go_simp
        try with_reducible rfl
      try simp only [Act.put, List.setIfInBounds_toArray, List.set_cons_zero, List.set_cons_succ]
      refine WS_take (i := 7) (v := ?va7) (by simp only [List.getElem?_toArray, List.getElem?_cons_succ, List.getElem?_cons_zero]; rfl) (by decide) (by kernel_rfl) (by kernel_rfl) (by intro _ _ _ h; exact h) (Or.inl ⟨by rfl, ?hya7⟩) hS0 ?resta7
      case hya7 =>
        intro wx hx
        obtain ⟨s1, s2⟩ := hx
        go_simp
        try with_reducible rfl
      try simp only [Act.put, List.setIfInBounds_toArray, List.set_cons_zero, List.set_cons_succ]
      refine WS_one (i := 8) (by simp only [List.getElem?_toArray, List.getElem?_cons_succ, List.getElem?_cons_zero]; rfl) (by decide) (by kernel_rfl) (fun K hK => (if_pos (by kernel_rfl)).mpr ?_)
      go_simp
      refine hK _ _ hS1 ?_
      clear hK K
      try simp only [Act.put, List.setIfInBounds_toArray, List.set_cons_zero, List.set_cons_succ]
      refine WS_one (i := 9) (by simp only [List.getElem?_toArray, List.getElem?_cons_succ, List.getElem?_cons_zero]; rfl) (by decide) (by kernel_rfl) (fun K hK => step_appB (by rfl) (.tmp 76) (.tmp 79) 25 (by rfl) B 9 j0 _ 1 16 Tryz.underlying25 hi0 hz0 hz1 hz2 (by rfl) (by decide) (.slice A8 s.index.length c8) s.index.length (s.index.flatMap txF) (txF t) rfl (by simp [txF, Value.oneCell']) (by rfl) w1.drew.heap.size (by rfl) HD.out (HV8.out ▸ HW9.out.ow.own 8 (by omega)) HW9.out.hB (by simp only [maxLen]; omega) (by omega) ?_)
      intro v' w' h1 h2 h3
      obtain ⟨⟨A', c', hv'⟩, hc, hf, hI⟩ := HW9.out.push (s' := { s with index := s.index ++ [t] }) 8 (p := 8) (by omega) rfl rfl rfl (fun j h1 h2 h3 => by rcases twelve_cases h3 with rfl | rfl | rfl | rfl | rfl | rfl | rfl | rfl | rfl | rfl | rfl | rfl <;> first | rfl | omega) (by simpa [Desc.Is, rdesc] using h1) (by rw [HV8.out]; exact h2) (by rw [HV8.out]; exact h3)
      obtain ⟨A', n', c', rfl⟩ : ∃ A n c, v' = .slice A n c := ⟨_, _, _, hv'⟩
      clear hv'
      have hQ : ∀ p ∈ { k with res := (w.heap.size, (.cells #[.int .i64 10, vs t] 84 (0, 0))) :: k.res }.res, w'.heap[p.1]? = some p.2 := fun p hp => (h2.block p.1 (HW9.out.lt _ (RCst.mem_res _ wb hp)) (fun e => HW9.out.ow.out 8 (by omega) p.1 (by rw [HV8.out]; exact e.symm) (RCst.mem_res _ wb hp))).trans (HW9.out.res p hp).1
      have hS2 : (fun wz : World => wz.cell? ⟨wb, 8, none⟩ = some (.slice A8 s.index.length c8) ∧ wz.cell? ⟨w.heap.size, 1, none⟩ = some (vs t)) w' := ⟨(hc 8).trans (by rw [← HV8.out]; rfl), by rw [Lib.cell_of_heap (hQ (w.heap.size, (.cells #[.int .i64 10, vs t] 84 (0, 0))) (by simp))]; rfl⟩
      have ya := hc 8
      have yf := hf 8
      simp only [rcells, List.getElem?_cons_succ, List.getElem?_cons_zero] at ya
      have HIa := Lib.hid hI
      refine hK _ _ hS2 ?_
      clear hK K h1 h2 h3 hc hf hI hS2 hQ hS0 hS1 z8 zx
      try simp only [Act.put, List.setIfInBounds_toArray, List.set_cons_zero, List.set_cons_succ]
      refine WS_done (by kernel_rfl) ?_
      simp only [List.drop_succ_cons, List.drop_zero]
      go_upto_region 22 with fail
      obtain ⟨WX, hWX⟩ : ∃ WX, WX = w'.setCell ⟨wb, 8, none⟩ (.slice A' n' c') := ⟨_, rfl⟩
      have hI1 := HIa.out
      rw [← hWX] at hI1 ⊢
      clear ya yf
      obtain ⟨v5, hw5⟩ := hI1
      obtain ⟨A5, c5, hv5⟩ : ∃ A c, v5 7 = .slice A s.ia.length c := own_slice (hw5.ow.own 7 (by omega))
      have z5 : WX.cell? ⟨wb, 7, none⟩ = some (.slice A5 s.ia.length c5) := (hw5.cell 7).trans (by rw [← hv5]; rfl)
      have HV5 := Lib.hid hv5
      have HK5 := Lib.hid hw5
      have HHE := Lib.hid (rhere_any (s := { s with index := s.index ++ [t] }) (⟨v5, hw5.below ((Below.refl WX.heap.size WX).drew)⟩ : Ri B w0 WX.drew wb _ { s with index := s.index ++ [t] }) (by simp only; omega))
      have hbd : Below WX.heap.size WX (WX.drew.alloc (.cells #[.int .i64 (Nb.here s)] 3)) := ((Below.refl WX.heap.size WX).drew).alloc (Nat.le_refl _) _
      have hW1 := hw5.below hbd
      have HW2 := Lib.hid hW1
      have HD2 := Lib.hid (heap_alloc_new WX.drew (.cells #[.int .i64 (Nb.here s)] 3))
      have hS0 : (fun wz : World => wz.cell? ⟨wb, 7, none⟩ = some (.slice A5 s.ia.length c5)) WX.drew := z5
      have hS1 : (fun wz : World => wz.cell? ⟨wb, 7, none⟩ = some (.slice A5 s.ia.length c5)) (WX.drew.alloc (.cells #[.int .i64 (Nb.here s)] 3)) := (hW1.cell 7).trans (by rw [← hv5]; rfl)
      obtain ⟨i5, hi0, hz0, hz1, hz2⟩ := info_parts intInfo
      clear hW1 hbd hWX hv5 hw5 HIa
      refine wp_region_headS 10 (fun wz : World => wz.cell? ⟨wb, 7, none⟩ = some (.slice A5 s.ia.length c5)) (by kernel_rfl) (by kernel_rfl) ?_
      refine WS_take (i := 0) (v := ?vb0) (by simp only [List.getElem?_toArray, List.getElem?_cons_zero]; rfl) (by decide) (by kernel_rfl) (by kernel_rfl) (by intro _ _ _ h; exact h) (Or.inl ⟨by rfl, ?hyb0⟩) hS0 ?restb0
      case hyb0 =>
        intro wx hx
        have s1 := hx
        go_simp
        try with_reducible rfl
      try simp only [Act.put, List.setIfInBounds_toArray, List.set_cons_zero, List.set_cons_succ]
      refine WS_take (i := 1) (v := ?vb1) (by simp only [List.getElem?_toArray, List.getElem?_cons_succ, List.getElem?_cons_zero]; rfl) (by decide) (by kernel_rfl) (by kernel_rfl) (by intro _ _ _ h; exact h) (Or.inl ⟨by rfl, ?hyb1⟩) hS0 ?restb1
      case hyb1 =>
        intro wx hx
        have s1 := hx
        go_simp
        try with_reducible rfl
      try simp only [Act.put, List.setIfInBounds_toArray, List.set_cons_zero, List.set_cons_succ]
      refine WS_take (i := 2) (v := ?vb2) (by simp only [List.getElem?_toArray, List.getElem?_cons_succ, List.getElem?_cons_zero]; rfl) (by decide) (by kernel_rfl) (by kernel_rfl) (by intro _ _ _ h; exact h) (Or.inl ⟨by rfl, ?hyb2⟩) hS0 ?restb2
      case hyb2 =>
        intro wx hx
        have s1 := hx
        go_simp
        try with_reducible rfl
      try simp only [Act.put, List.setIfInBounds_toArray, List.set_cons_zero, List.set_cons_succ]
      refine WS_take (i := 3) (v := ?vb3) (by simp only [List.getElem?_toArray, List.getElem?_cons_succ, List.getElem?_cons_zero]; rfl) (by decide) (by kernel_rfl) (by kernel_rfl) (by intro _ _ _ h; exact h) (Or.inl ⟨by rfl, ?hyb3⟩) hS0 ?restb3
      case hyb3 =>
        intro wx hx
        have s1 := hx
        go_simp
        try with_reducible rfl
      try simp only [Act.put, List.setIfInBounds_toArray, List.set_cons_zero, List.set_cons_succ]
      refine WS_take (i := 4) (v := ?vb4) (by simp only [List.getElem?_toArray, List.getElem?_cons_succ, List.getElem?_cons_zero]; rfl) (by decide) (by kernel_rfl) (by kernel_rfl) (by intro _ _ _ h; exact h) (Or.inl ⟨by rfl, ?hyb4⟩) hS0 ?restb4
      case hyb4 =>
        intro wx hx
        have s1 := hx
        go_simp
        try with_reducible rfl
      try simp only [Act.put, List.setIfInBounds_toArray, List.set_cons_zero, List.set_cons_succ]
      refine WS_take (i := 5) (v := ?vb5) (by simp only [List.getElem?_toArray, List.getElem?_cons_succ, List.getElem?_cons_zero]; rfl) (by decide) (by kernel_rfl) (by kernel_rfl) (by intro _ _ _ h; exact h) (Or.inl ⟨by rfl, ?hyb5⟩) hS0 ?restb5
      case hyb5 =>
        intro wx hx
        have s1 := hx
        go_simp
        try with_reducible rfl
      try simp only [Act.put, List.setIfInBounds_toArray, List.set_cons_zero, List.set_cons_succ]
      refine WS_take (i := 6) (v := ?vb6) (by simp only [List.getElem?_toArray, List.getElem?_cons_succ, List.getElem?_cons_zero]; rfl) (by decide) (by kernel_rfl) (by kernel_rfl) (by intro _ _ _ h; exact h) (Or.inl ⟨by rfl, ?hyb6⟩) hS0 ?restb6
      case hyb6 =>
        intro wx hx
        have s1 := hx
        go_simp
        try with_reducible rfl
      try simp only [Act.put, List.setIfInBounds_toArray, List.set_cons_zero, List.set_cons_succ]
      refine WS_one (i := 7) (by simp only [List.getElem?_toArray, List.getElem?_cons_succ, List.getElem?_cons_zero]; rfl) (by decide) (by kernel_rfl) (fun K hK => (if_pos (by kernel_rfl)).mpr ?_)
      go_simp
      refine HHE.out.mono ?_
      rintro e wq ⟨rfl, rfl⟩
      dsimp only
      refine hK _ _ hS0 ?_
      clear hK K
      try simp only [Act.put, List.setIfInBounds_toArray, List.set_cons_zero, List.set_cons_succ]
      refine WS_one (i := 8) (by simp only [List.getElem?_toArray, List.getElem?_cons_succ, List.getElem?_cons_zero]; rfl) (by decide) (by kernel_rfl) (fun K hK => (if_pos (by kernel_rfl)).mpr ?_)
      go_simp
      refine hK _ _ hS1 ?_
      clear hK K
      try simp only [Act.put, List.setIfInBounds_toArray, List.set_cons_zero, List.set_cons_succ]
      refine WS_one (i := 9) (by simp only [List.getElem?_toArray, List.getElem?_cons_succ, List.getElem?_cons_zero]; rfl) (by decide) (by kernel_rfl) (fun K hK => step_appB (by rfl) (.tmp 89) (.tmp 92) 37 (by rfl) B 3 i5 _ 1 8 Tryz.underlying37 hi0 hz0 hz1 hz2 (by rfl) (by decide) (.slice A5 s.ia.length c5) s.ia.length (s.ia.flatMap inF) (inF (Nb.here s)) rfl (by simp [inF, Value.oneCell']) (by rfl) WX.drew.heap.size (by rfl) HD2.out (HV5.out ▸ HW2.out.ow.own 7 (by omega)) HW2.out.hB (by simp only [maxLen]; omega) (by omega) ?_)
      intro v' w' h1 h2 h3
      obtain ⟨⟨A', c', hv'⟩, hc, hf, hI⟩ := HW2.out.push (s' := { s with index := s.index ++ [t], ia := s.ia ++ [Nb.here s] }) 7 (p := 7) (by omega) rfl rfl rfl (fun j h1 h2 h3 => by rcases twelve_cases h3 with rfl | rfl | rfl | rfl | rfl | rfl | rfl | rfl | rfl | rfl | rfl | rfl <;> first | rfl | omega) (by simpa [Desc.Is, rdesc] using h1) (by rw [HV5.out]; exact h2) (by rw [HV5.out]; exact h3)
      obtain ⟨A', n', c', rfl⟩ : ∃ A n c, v' = .slice A n c := ⟨_, _, _, hv'⟩
      clear hv'
      have hS2 : (fun wz : World => wz.cell? ⟨wb, 7, none⟩ = some (.slice A5 s.ia.length c5)) w' := (hc 7).trans (by rw [← HV5.out]; rfl)
      have ya := hc 7
      have yf := hf 7
      simp only [rcells, List.getElem?_cons_succ, List.getElem?_cons_zero] at ya
      have HIb := Lib.hid hI
      refine hK _ _ hS2 ?_
      clear hK K h1 h2 h3 hc hf hI hS2 hS0 hS1
      try simp only [Act.put, List.setIfInBounds_toArray, List.set_cons_zero, List.set_cons_succ]
      refine WS_done (by kernel_rfl) ?_
      simp only [List.drop_succ_cons, List.drop_zero]
      go_wp2_with fail
      go_end0
      exact ⟨rfl, by rw [HR.out]; exact Ri.free (k := k) (R := [(w.heap.size, (.cells #[.int .i64 10, vs t] 84 (0, 0)))]) HIb.out⟩
  by_cases h11 : kd = 11
  · subst h11
    have HR : Hid (Nb.one E s ⟨11, t⟩ = Nb.step s t) := Lib.hid rfl
    go_enter Tryz.func23, Tryz.ntmps23
    go_wp2_with fail
    rw [← HW1.out]
    refine (rstep_any HK1.out T (by omega) HBD.out t).mono ?_
    rintro e w9 ⟨rfl, H9⟩
    have HK9 := Lib.hid H9
    clear H9
    go_wp2_with fail
    go_end0
    exact ⟨rfl, by rw [HR.out]; exact Ri.free (k := k) (R := [(w.heap.size, (.cells #[.int .i64 11, vs t] 84 (0, 0)))]) HK9.out⟩
  by_cases h12 : kd = 12
  · subst h12
    have HST := Lib.hid (rstepped_any HK1.out t (by have := HBD.out.ow; omega))
    cases hix : cnIx s.own t with
    | none =>
      have hgn : (cnGet s.own t).getD 0 = 0 := by
        cases hq : cnGet s.own t with
        | none => rfl
        | some m =>
          exfalso
          have key : ∀ l : Cn, cnIx l t = none → cnGet l t = none := by
            intro l
            induction l with
            | nil => intro _; rfl
            | cons b l ih =>
              obtain ⟨b, m⟩ := b
              intro h0
              by_cases hb : t = b
              · simp [cnIx, hb] at h0
              · simp [cnIx, hb] at h0
                simp [cnGet, hb, ih h0]
          rw [key s.own hix] at hq
          cases hq
      have HR : Hid (Nb.one E s ⟨12, t⟩ = Nb.say s [48]) := Lib.hid (show Nb.say s (dig ((cnGet s.own t).getD 0 : Nat)) = _ by rw [hgn, dig_zero])
      rw [hix] at HST
      unfold ixV at HST
      clear hgn hix
      go_enter Tryz.func23, Tryz.ntmps23
      go_wp2_with fail
      rw [← HW1.out]
      refine HST.out.mono ?_
      rintro e w2 ⟨rfl, rfl⟩
      go_wp2_with fail
      refine (rsay_any HK1.out HI.out T (by omega) HBD.out [48] (by simp)).mono ?_
      rintro e w9 ⟨rfl, H9⟩
      have HK9 := Lib.hid H9
      clear H9
      go_wp2_with fail
      go_end0
      exact ⟨rfl, by rw [HR.out]; exact Ri.free (k := k) (R := [(w.heap.size, (.cells #[.int .i64 12, vs t] 84 (0, 0)))]) HK9.out⟩
    | some j =>
      obtain ⟨hj, hg, _, _⟩ := cnIx_some hix
      obtain ⟨v, hw⟩ := HK1.out
      obtain ⟨g, c, hv, y20, yj, _⟩ := Ri.count hw hj
      have hjn : ¬ ((j : Int) < 0) := by omega
      have hj0 : (0 : Int) ≤ (j : Int) := by omega
      have hj1 : (j : Int) < (s.own.length : Int) := by omega
      have hnn : s.own[j].2 ≤ T := HBD.out.og t _ hg
      have HR : Hid (Nb.one E s ⟨12, t⟩ = Nb.say s (dig (s.own[j].2 : Int))) := Lib.hid (show Nb.say s (dig ((cnGet s.own t).getD 0 : Nat)) = _ by rw [hg]; rfl)
      generalize s.own[j].2 = n at *
      have hdl := dig_len6 (n : Int)
      have HDG := Lib.hid (fun wx => rDig_any n (by omega) wx)
      rw [hix] at HST
      unfold ixV at HST
      clear hw hv hg hix hj
      go_enter Tryz.func23, Tryz.ntmps23
      go_wp2_with fail
      rw [← HW1.out]
      refine HST.out.mono ?_
      rintro e w2 ⟨rfl, hw2⟩
      subst hw2
      go_wp2_with fail
      refine (HDG.out _).mono ?_
      rintro e w5 ⟨rfl, b5⟩
      have HK5 := Lib.hid (HK1.out.below b5)
      clear b5 y20 yj
      go_wp2_with fail
      refine (rsay_any HK5.out HI.out T (by omega) HBD.out (dig (n : Int)) (by omega)).mono ?_
      rintro e w9 ⟨rfl, H9⟩
      have HK9 := Lib.hid H9
      clear H9
      go_wp2_with fail
      go_end0
      exact ⟨rfl, by rw [HR.out]; exact Ri.free (k := k) (R := [(w.heap.size, (.cells #[.int .i64 12, vs t] 84 (0, 0)))]) HK9.out⟩
  by_cases h13 : kd = 13
  · subst h13
    have HR : Hid (Nb.one E s ⟨13, t⟩ = Nb.lines (Nb.close (noteIf { s with bibs := (once s.bibs t 8).1 } (once s.bibs t 8).2 t)) (E.bbl.map ciLine)) := Lib.hid (by rw [rbibs_eq]; rfl)
    obtain ⟨v6, hw6⟩ := HK1.out
    have hw6d := hw6.below ((Below.refl w1.heap.size w1).drew)
    have HON := Lib.hid (ronce_any (w := w1.drew) hw6d 4 (by omega) s.bibs (fun l => { s with bibs := l }) rfl (fun _ => rfl) (fun _ => rfl) (fun _ _ => rfl) (fun l v j h1 h2 h3 => by rcases twelve_cases h3 with rfl | rfl | rfl | rfl | rfl | rfl | rfl | rfl | rfl | rfl | rfl | rfl <;> first | rfl | omega) (by have := HBD.out.nt; omega) (by have := HBD.out.bb; omega) t 8 (by omega))
    have hS0 : (fun wz : World => wz.cell? ⟨wb, 4, none⟩ = some (v6 4) ∧ wz.cell? ⟨w.heap.size, 1, none⟩ = some (vs t)) w1.drew := ⟨hw6d.cell 4, by rw [Lib.cell_of_heap (hw6d.res (w.heap.size, (.cells #[.int .i64 13, vs t] 84 (0, 0))) (by simp)).1]; rfl⟩
    have HB1 := Lib.hid ((HBD.out.bibs (once s.bibs t 8).1 (by have := once_len s.bibs t 8; have := HBD.out.bb; omega)).noteIf (once s.bibs t 8).2 t)
    clear hw6 hw6d
    go_enter Tryz.func23, Tryz.ntmps23
    go_upto_region 31 with fail
    rw [← HW1.out]
    refine wp_region_headS 11 (fun wz : World => wz.cell? ⟨wb, 4, none⟩ = some (v6 4) ∧ wz.cell? ⟨w.heap.size, 1, none⟩ = some (vs t)) (by kernel_rfl) (by kernel_rfl) ?_
    refine WS_take (i := 0) (v := ?vc0) (by simp only [List.getElem?_toArray, List.getElem?_cons_zero]; rfl) (by decide) (by kernel_rfl) (by kernel_rfl) (by intro _ _ _ h; exact h) (Or.inl ⟨by rfl, ?hyc0⟩) hS0 ?restc0
    case hyc0 =>
      intro wx hx
      obtain ⟨s1, s2⟩ := hx
      go_simp
      try with_reducible rfl
    try simp only [Act.put, List.setIfInBounds_toArray, List.set_cons_zero, List.set_cons_succ]
    refine WS_take (i := 1) (v := ?vc1) (by simp only [List.getElem?_toArray, List.getElem?_cons_succ, List.getElem?_cons_zero]; rfl) (by decide) (by kernel_rfl) (by kernel_rfl) (by intro _ _ _ h; exact h) (Or.inl ⟨by rfl, ?hyc1⟩) hS0 ?restc1
    case hyc1 =>
      intro wx hx
      obtain ⟨s1, s2⟩ := hx
      go_simp
      try with_reducible rfl
    try simp only [Act.put, List.setIfInBounds_toArray, List.set_cons_zero, List.set_cons_succ]
    refine WS_take (i := 2) (v := ?vc2) (by simp only [List.getElem?_toArray, List.getElem?_cons_succ, List.getElem?_cons_zero]; rfl) (by decide) (by kernel_rfl) (by kernel_rfl) (by intro _ _ _ h; exact h) (Or.inl ⟨by rfl, ?hyc2⟩) hS0 ?restc2
    case hyc2 =>
      intro wx hx
      obtain ⟨s1, s2⟩ := hx
      go_simp
      try with_reducible rfl
    try simp only [Act.put, List.setIfInBounds_toArray, List.set_cons_zero, List.set_cons_succ]
    refine WS_take (i := 3) (v := ?vc3) (by simp only [List.getElem?_toArray, List.getElem?_cons_succ, List.getElem?_cons_zero]; rfl) (by decide) (by kernel_rfl) (by kernel_rfl) (by intro _ _ _ h; exact h) (Or.inl ⟨by rfl, ?hyc3⟩) hS0 ?restc3
    case hyc3 =>
      intro wx hx
      obtain ⟨s1, s2⟩ := hx
      go_simp
      try with_reducible rfl
    try simp only [Act.put, List.setIfInBounds_toArray, List.set_cons_zero, List.set_cons_succ]
    refine WS_take (i := 4) (v := ?vc4) (by simp only [List.getElem?_toArray, List.getElem?_cons_succ, List.getElem?_cons_zero]; rfl) (by decide) (by kernel_rfl) (by kernel_rfl) (by intro _ _ _ h; exact h) (Or.inl ⟨by rfl, ?hyc4⟩) hS0 ?restc4
    case hyc4 =>
      intro wx hx
      obtain ⟨s1, s2⟩ := hx
      go_simp
      try with_reducible rfl
    try simp only [Act.put, List.setIfInBounds_toArray, List.set_cons_zero, List.set_cons_succ]
    refine WS_take (i := 5) (v := ?vc5) (by simp only [List.getElem?_toArray, List.getElem?_cons_succ, List.getElem?_cons_zero]; rfl) (by decide) (by kernel_rfl) (by kernel_rfl) (by intro _ _ _ h; exact h) (Or.inl ⟨by rfl, ?hyc5⟩) hS0 ?restc5
    case hyc5 =>
      intro wx hx
      obtain ⟨s1, s2⟩ := hx
      go_simp
      try with_reducible rfl
    try simp only [Act.put, List.setIfInBounds_toArray, List.set_cons_zero, List.set_cons_succ]
    refine WS_take (i := 6) (v := ?vc6) (by simp only [List.getElem?_toArray, List.getElem?_cons_succ, List.getElem?_cons_zero]; rfl) (by decide) (by kernel_rfl) (by kernel_rfl) (by intro _ _ _ h; exact h) (Or.inl ⟨by rfl, ?hyc6⟩) hS0 ?restc6
    case hyc6 =>
      intro wx hx
      obtain ⟨s1, s2⟩ := hx
      go_simp
      try with_reducible rfl
    try simp only [Act.put, List.setIfInBounds_toArray, List.set_cons_zero, List.set_cons_succ]
    refine WS_take (i := 7) (v := ?vc7) (by simp only [List.getElem?_toArray, List.getElem?_cons_succ, List.getElem?_cons_zero]; rfl) (by decide) (by kernel_rfl) (by kernel_rfl) (by intro _ _ _ h; exact h) (Or.inl ⟨by rfl, ?hyc7⟩) hS0 ?restc7
    case hyc7 =>
      intro wx hx
      obtain ⟨s1, s2⟩ := hx
      go_simp
      try with_reducible rfl
    try simp only [Act.put, List.setIfInBounds_toArray, List.set_cons_zero, List.set_cons_succ]
    refine WS_take (i := 8) (v := ?vc8) (by simp only [List.getElem?_toArray, List.getElem?_cons_succ, List.getElem?_cons_zero]; rfl) (by decide) (by kernel_rfl) (by kernel_rfl) (by intro _ _ _ h; exact h) (Or.inl ⟨by rfl, ?hyc8⟩) hS0 ?restc8
    case hyc8 =>
      intro wx hx
      obtain ⟨s1, s2⟩ := hx
      go_simp
      try with_reducible rfl
    try simp only [Act.put, List.setIfInBounds_toArray, List.set_cons_zero, List.set_cons_succ]
    refine WS_take (i := 9) (v := ?vc9) (by simp only [List.getElem?_toArray, List.getElem?_cons_succ, List.getElem?_cons_zero]; rfl) (by decide) (by kernel_rfl) (by kernel_rfl) (by intro _ _ _ h; exact h) (Or.inl ⟨by rfl, ?hyc9⟩) hS0 ?restc9
    case hyc9 =>
      intro wx hx
      obtain ⟨s1, s2⟩ := hx
      go_simp
      try with_reducible rfl
    try simp only [Act.put, List.setIfInBounds_toArray, List.set_cons_zero, List.set_cons_succ]
    refine WS_one (i := 10) (by simp only [List.getElem?_toArray, List.getElem?_cons_succ, List.getElem?_cons_zero]; rfl) (by decide) (by kernel_rfl) (fun K hK => (if_pos (by kernel_rfl)).mpr ?_)
    go_simp
    refine HON.out.mono ?_
    rintro e w7 ⟨A7, n7, c7, rfl, q1, q2, q3, q4⟩
    dsimp only
    have hS7 : (fun wz : World => wz.cell? ⟨wb, 4, none⟩ = some (v6 4) ∧ wz.cell? ⟨w.heap.size, 1, none⟩ = some (vs t)) w7 := ⟨q1, by rw [Lib.cell_of_heap (q4 (w.heap.size, (.cells #[.int .i64 13, vs t] 84 (0, 0))) (by simp))]; rfl⟩
    have HQ := Lib.hid q3
    refine hK _ _ hS7 ?_
    clear hK K hS7 hS0 q3 q4
    try simp only [Act.put, List.setIfInBounds_toArray, List.set_cons_zero, List.set_cons_succ]
    refine WS_done (by kernel_rfl) ?_
    simp only [List.drop_succ_cons, List.drop_zero]
    go_upto_region 32 with fail
    obtain ⟨WX, hWX⟩ : ∃ WX, WX = w7.setCell ⟨wb, 4, none⟩ (.slice A7 n7 c7) := ⟨_, rfl⟩
    have hq := HQ.out
    rw [← hWX] at hq ⊢
    obtain ⟨s1, hs1⟩ : ∃ s1, s1 = noteIf { s with bibs := (once s.bibs t 8).1 } (once s.bibs t 8).2 t := ⟨_, rfl⟩
    rw [← hs1] at hq HB1 HR
    have HX := Lib.hid hq
    have HRF := Lib.hid (rrefs_any _ E.bbl (below_row HE.out.bb hq.bel hq.hB) (by have := HE.out.ok.bb; omega) HE.out.ok.bbt)
    clear hq hs1 hWX q1 q2
    go_wp2_with fail
    refine HRF.out.mono ?_
    rintro e w8 ⟨v8, rfl, ho8, hb8⟩
    obtain ⟨R, hR, hrow⟩ := HX.out.fresh hb8 ho8
    have HR8 := Lib.hid hR
    have HROW := Lib.hid hrow
    obtain ⟨A9, n9, c9, rfl⟩ : ∃ A n c, v8 = .slice A n c := by obtain ⟨A, c, e⟩ := own_slice ho8; exact ⟨A, _, c, e⟩
    clear hR hrow ho8 hb8
    go_wp2_with fail
    refine (rrows_any HR8.out (T + 2) (by omega) (by omega) HB1.out _ _ HROW.out (by have := HE.out.ok.bb; simp; omega) (ciLine_len HE.out.ok)).mono ?_
    rintro e w9 ⟨rfl, H9⟩
    have HK9 := Lib.hid (Ri.free (k := { k with res := (w.heap.size, (.cells #[.int .i64 13, vs t] 84 (0, 0))) :: k.res }) H9)
    clear H9
    go_wp2_with fail
    go_end0
    exact ⟨rfl, by rw [HR.out]; exact Ri.free (k := k) (R := [(w.heap.size, (.cells #[.int .i64 13, vs t] 84 (0, 0)))]) HK9.out⟩
  by_cases h14 : kd = 14
  · subst h14
    have HR : Hid (Nb.one E s ⟨14, t⟩ = Nb.lines (Nb.close s) (E.heads.map hdLine)) := Lib.hid rfl
    have HCO := Lib.hid (rcontents_any HK1.out HE1.out)
    go_enter Tryz.func23, Tryz.ntmps23
    go_wp2_with fail
    rw [← HW1.out]
    refine HCO.out.mono ?_
    rintro e w8 ⟨v8, rfl, ho8, hb8⟩
    obtain ⟨R, hR, hrow⟩ := HK1.out.fresh hb8 ho8
    have HR8 := Lib.hid hR
    have HROW := Lib.hid hrow
    obtain ⟨A9, n9, c9, rfl⟩ : ∃ A n c, v8 = .slice A n c := by obtain ⟨A, c, e⟩ := own_slice ho8; exact ⟨A, _, c, e⟩
    clear hR hrow ho8 hb8
    go_wp2_with fail
    refine (rrows_any HR8.out T (by omega) hT6 HBD.out _ _ HROW.out (by have := HE.out.ok.hd; simp; omega) (hdLine_len HE.out.ok)).mono ?_
    rintro e w9 ⟨rfl, H9⟩
    have HK9 := Lib.hid (Ri.free (k := { k with res := (w.heap.size, (.cells #[.int .i64 14, vs t] 84 (0, 0))) :: k.res }) H9)
    clear H9
    go_wp2_with fail
    go_end0
    exact ⟨rfl, by rw [HR.out]; exact Ri.free (k := k) (R := [(w.heap.size, (.cells #[.int .i64 14, vs t] 84 (0, 0)))]) HK9.out⟩
  by_cases h15 : kd = 15
  · subst h15
    have HR : Hid (Nb.one E s ⟨15, t⟩ = Nb.lines (Nb.close s) E.ind) := Lib.hid rfl
    go_enter Tryz.func23, Tryz.ntmps23
    go_wp2_with fail
    rw [← HW1.out]
    refine (rrows_any HK1.out T (by omega) hT6 HBD.out _ E.ind (Ri.old HE.out.ind) (by have := HE.out.ok.ind; omega) (fun u hu => by have := HE.out.ok.indt u hu; omega)).mono ?_
    rintro e w9 ⟨rfl, H9⟩
    have HK9 := Lib.hid H9
    clear H9
    go_wp2_with fail
    go_end0
    exact ⟨rfl, by rw [HR.out]; exact Ri.free (k := k) (R := [(w.heap.size, (.cells #[.int .i64 15, vs t] 84 (0, 0)))]) HK9.out⟩
  by_cases h16 : kd = 16
  · subst h16
    have HR : Hid (Nb.one E s ⟨16, t⟩ = Nb.close (Nb.block s 3 [])) := Lib.hid rfl
    go_enter Tryz.func23, Tryz.ntmps23
    go_wp2_with fail
    rw [← HW1.out]
    refine (rblock_any (HK1.out.with (Below.refl _ _) (OwnC.nil _ _ _ _ _) : RiW B w0 w1 wb _ s (.slice none 0 0) []) 3 (by have := HBD.out.bl; omega) (by have := HBD.out.wo; omega) (by simp)).mono ?_
    rintro e w9 ⟨rfl, H9⟩
    have HK9 := Lib.hid H9
    clear H9
    go_wp2_with fail
    go_end0
    exact ⟨rfl, by rw [HR.out]; exact Ri.free (k := k) (R := [(w.heap.size, (.cells #[.int .i64 16, vs t] 84 (0, 0)))]) HK9.out⟩
  have HR : Hid (Nb.one E s ⟨kd, t⟩ = s) := Lib.hid (by
    unfold Nb.one
    simp only [h1, h2, h3, h4, h5, h6, h7, h8, h9, h10, h11, h12, h13, h14, h15, h16, if_false, or_self])
  have e1 : (kd == 1) = false := by simp [h1]
  have e2 : (kd == 2) = false := by simp [h2]
  have e3 : (kd == 3) = false := by simp [h3]
  have e4 : (kd == 4) = false := by simp [h4]
  have e5 : (kd == 5) = false := by simp [h5]
  have e6 : (kd == 6) = false := by simp [h6]
  have e7 : (kd == 7) = false := by simp [h7]
  have e8 : (kd == 8) = false := by simp [h8]
  have e9 : (kd == 9) = false := by simp [h9]
  have e10 : (kd == 10) = false := by simp [h10]
  have e11 : (kd == 11) = false := by simp [h11]
  have e12 : (kd == 12) = false := by simp [h12]
  have e13 : (kd == 13) = false := by simp [h13]
  have e14 : (kd == 14) = false := by simp [h14]
  have e15 : (kd == 15) = false := by simp [h15]
  have e16 : (kd == 16) = false := by simp [h16]
  clear h1 h2 h3 h4 h5 h6 h7 h8 h9 h10 h11 h12 h13 h14 h15 h16
  go_enter Tryz.func23, Tryz.ntmps23
  go_wp2_with fail
  go_end0
  rw [← HW1.out]
  have HK9 := HK1
  exact ⟨rfl, by rw [HR.out]; exact Ri.free (k := k) (R := [(w.heap.size, (.cells #[.int .i64 kd, vs t] 84 (0, 0)))]) HK9.out⟩
end
end Go.Proofs.YtjmmfihmamcopaaGreatDoor
