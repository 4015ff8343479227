/- stetlaw11.NumberTells. -/
import Derived.Test.YtjmmfihmamcopaaGreatDoorRnL
import Derived.Test.YtjmmfihmamcopaaGreatDoorNbCx
import Derived.Test.YtjmmfihmamcopaaGreatDoorNbIn
namespace Go.Proofs.YtjmmfihmamcopaaGreatDoor
open Go.RowKit Tx Nb

theorem four_set {w : World} {g : Nat} {z0 z1 z2 z3 : Value} {t : TypeId} (h : w.heap[g]? = some (.cells #[z0, z1, z2, z3] t (0, 0))) (x0 x1 x2 x3 : Value) :
    ((((w.setCell ⟨g, 0, none⟩ x0).setCell ⟨g, 1, none⟩ x1).setCell ⟨g, 2, none⟩ x2).setCell ⟨g, 3, none⟩ x3).heap[g]? = some (.cells #[x0, x1, x2, x3] t (0, 0)) := by
  have a0 := cells_set (j := 0) h x0
  simp only [List.setIfInBounds_toArray, List.set_cons_zero] at a0
  have a1 := cells_set (j := 1) a0 x1
  simp only [List.setIfInBounds_toArray, List.set_cons_zero, List.set_cons_succ] at a1
  have a2 := cells_set (j := 2) a1 x2
  simp only [List.setIfInBounds_toArray, List.set_cons_zero, List.set_cons_succ] at a2
  have a3 := cells_set (j := 3) a2 x3
  simp only [List.setIfInBounds_toArray, List.set_cons_zero, List.set_cons_succ] at a3
  exact a3
theorem four_other {w : World} {g j : Nat} (hj : j ≠ g) (x0 x1 x2 x3 : Value) : ((((w.setCell ⟨g, 0, none⟩ x0).setCell ⟨g, 1, none⟩ x1).setCell ⟨g, 2, none⟩ x2).setCell ⟨g, 3, none⟩ x3).heap[j]? = w.heap[j]? := by
  have h : ∀ (w : World) (i : Nat) (x : Value), (w.setCell ⟨g, i, none⟩ x).heap[j]? = w.heap[j]? := fun w i x => Below.heap_setCell _ _ _ _ hj
  rw [h, h, h, h]
theorem four_below {B : Nat} {a w : World} (h : Below B a w) {g : Nat} (hg : B ≤ g) (x0 x1 x2 x3 : Value) : Below B a ((((w.setCell ⟨g, 0, none⟩ x0).setCell ⟨g, 1, none⟩ x1).setCell ⟨g, 2, none⟩ x2).setCell ⟨g, 3, none⟩ x3) :=
  (((h.setCell (p := ⟨g, 0, none⟩) hg x0).setCell (p := ⟨g, 1, none⟩) hg x1).setCell (p := ⟨g, 2, none⟩) hg x2).setCell (p := ⟨g, 3, none⟩) hg x3
set_option maxRecDepth 100000 in
set_option maxHeartbeats 32000000 in
theorem tells_any {w : World} (vl : Value) (l0 : List It) (x : SdIn) (y : GvIn) (hr : RowC 2 itF w w.heap.size vl l0) (ok : ∀ z ∈ l0, ItOk z) (hx : SdOk w x) (hy : GvOk w y) (hg : Gl w) :
    Calls Tryz.prog 3 #[vl, .agg #[x.v0, x.v1, x.v2, x.v3], .agg #[y.v0, y.v1]] w fun e w' => e = .returned (.bool true) ∧ Below w.heap.size w w' := by
  obtain ⟨xv0, xv1, xv2, xv3, xl, xh, xc, xb⟩ := x
  obtain ⟨yv0, yv1, yc, yi⟩ := y
  obtain ⟨hx0, hx1, hx2, hx3, hx4, hx5, hx6, hx7⟩ := hx
  obtain ⟨hy0, hy1, hy2, hy3⟩ := hy
  simp only at hx0 hx1 hx2 hx3 hx4 hx5 hx6 hx7 hy0 hy1 hy2 hy3 ⊢
  have key : ∀ {α : Type} {n : Nat} {f : α → List Value} {B : Nat} {v : Value} {l : List α}, RowC n f w B v l → ∃ A n c, v = .slice A n c := fun h => by obtain ⟨A, c, e, _⟩ := h.shape; exact ⟨A, _, c, e⟩
  obtain ⟨P0, q0, g0, rfl⟩ := key hx0
  obtain ⟨P1, q1, g1, rfl⟩ := key hx1
  obtain ⟨P2, q2, g2, rfl⟩ := key hx2
  obtain ⟨P3, q3, g3, rfl⟩ := key hx3
  obtain ⟨P4, q4, g4, rfl⟩ := key hy0
  obtain ⟨P5, q5, g5, rfl⟩ := key hy1
  obtain ⟨P6, q6, g6, rfl⟩ := key hr
  clear key
  have ht9 : ∀ wx, Below w.heap.size w wx → Calls Tryz.prog 6 #[.agg #[(.slice P0 q0 g0), (.slice P1 q1 g1), (.slice P2 q2 g2), (.slice P3 q3 g3)], .int .i64 8] wx (CutPost wx ((xl.take 8).map labCut) ((xh.take 8).map hdCut)) := fun wx hb =>
    l10cut_any (.slice P0 q0 g0) (.slice P1 q1 g1) (.slice P2 q2 g2) (.slice P3 q3 g3) xl xh xc xb (hx0.step hb) (hx1.step hb) (hx2.step hb) (hx3.step hb) (fun z hz => ⟨(hx4 z hz).1, (hx4 z hz).2.1⟩) (fun z hz => ⟨(hx5 z hz).2.1, (hx5 z hz).2.2.1⟩) hx6 hx7 8 (by decide)
  have ht10 : ∀ wx, Below w.heap.size w wx → Calls Tryz.prog 7 #[(.slice P4 q4 g4)] wx fun e w' => ∃ A n c, e = .returned (.slice A n c) ∧ RowC 3 ciF w' w'.heap.size (.slice A n c) ((yc.take 6).map ciCut) ∧ Below wx.heap.size wx w' := fun wx hb =>
    (bbl_any (.slice P4 q4 g4) yc (hy0.step hb) hy2).mono fun e w' ⟨v, he, o, hbb⟩ => by obtain ⟨A, c, hv⟩ := own_slice o; exact ⟨A, _, c, by rw [he, hv], by rw [← hv]; exact o.rowC ciF_len, hbb⟩
  have ht11 : ∀ wx, Below w.heap.size w wx → Calls Tryz.prog 8 #[(.slice P5 q5 g5)] wx fun e w' => ∃ A n c, e = .returned (.slice A n c) ∧ RowC 1 txF w' w'.heap.size (.slice A n c) ((yi.take 6).map (List.take 60)) ∧ Below wx.heap.size wx w' := fun wx hb =>
    (cut11_any (.slice P5 q5 g5) yi (hy1.step hb) hy3).mono fun e w' ⟨v, he, o, hbb⟩ => by obtain ⟨A, c, hv⟩ := own_slice o; exact ⟨A, _, c, by rw [he, hv], by rw [← hv]; exact o.rowC txF_len, hbb⟩
  have hEok : (Env.mk ((xl.take 8).map labCut) ((xh.take 8).map hdCut) ((yc.take 6).map ciCut) ((yi.take 6).map (List.take 60))).Ok := by
    refine ⟨by simp; omega, fun z hz => ?_, by simp; omega, fun z hz => ?_, by simp; omega, fun z hz => ?_, by simp; omega, fun z hz => ?_⟩
    · obtain ⟨u, _, rfl⟩ := List.mem_map.1 hz; simp only [labCut, List.length_take]; omega
    · obtain ⟨u, _, rfl⟩ := List.mem_map.1 hz; simp only [hdCut, List.length_take]; omega
    · obtain ⟨u, _, rfl⟩ := List.mem_map.1 hz; simp only [ciCut, List.length_take]; omega
    · obtain ⟨u, _, rfl⟩ := List.mem_map.1 hz; simp only [List.length_take]; omega
  have hL : ((l0.take 40).map itCut).length ≤ 40 := by simp; omega
  have hLx : ∀ z ∈ (l0.take 40).map itCut, z.s.length ≤ 100 := fun z hz => by
    obtain ⟨u, _, rfl⟩ := List.mem_map.1 hz
    simp only [itCut, List.length_take]
    omega
  have hn1 : ((xl.take 8).map labCut).length < 1000000 := by simp; omega
  have hn2 : ((xh.take 8).map hdCut).length < 1000000 := by simp; omega
  have hn3 : ((yc.take 6).map ciCut).length < 1000000 := by simp; omega
  generalize (xl.take 8).map labCut = LB at *
  generalize (xh.take 8).map hdCut = HB at *
  generalize (yc.take 6).map ciCut = CB at *
  generalize (yi.take 6).map (List.take 60) = IB at *
  have HG := Lib.hid hg
  obtain ⟨W0, hW0⟩ : ∃ W0, W0 = (w.alloc (.cells #[.slice P0 q0 g0, .slice P1 q1 g1, .slice P2 q2 g2, .slice P3 q3 g3] 27)).alloc (.cells #[.slice P4 q4 g4, .slice P5 q5 g5] 30) := ⟨_, rfl⟩
  have hG0 : Gd w (.cells #[.slice P0 q0 g0, .slice P1 q1 g1, .slice P2 q2 g2, .slice P3 q3 g3] 27 (0, 0)) (.cells #[.slice P4 q4 g4, .slice P5 q5 g5] 30 (0, 0)) W0 := by rw [hW0]; exact Gd.made w _ _
  have hsz0 : W0.heap.size = w.heap.size + 2 := by rw [hW0]; simp
  have hcut := l9cut_any (.slice P6 q6 g6) l0 (hr.step hG0.gb) (fun z hz => (ok z hz).2) 40 (by decide)
  have HCUT := Lib.hid hcut
  have HW0 := Lib.hid hW0
  have HG0 := Lib.hid hG0
  have HSZ0 := Lib.hid hsz0
  have HT9 := Lib.hid ht9
  have HT10 := Lib.hid ht10
  have HT11 := Lib.hid ht11
  have HEOK := Lib.hid hEok
  have HLE := Lib.hid (And.intro hL hLx)
  have HNN := Lib.hid (And.intro hn1 (And.intro hn2 hn3))
  clear hx0 hx1 hx2 hx3 hx4 hx5 hx6 hx7 hy0 hy1 hy2 hy3 ht9 ht10 ht11 hEok hL hLx hcut hg hW0 hG0 hr ok hn1 hn2 hn3 hsz0
  go_enter Tryz.func3, Tryz.ntmps3
  go_upto_region 1 with fail
  rw [← HW0.out]
  go_wp2_with fail
  refine HCUT.out.mono ?_
  rintro e W ⟨v7, rfl, ho7, hb7⟩
  have hG := HG0.out.step hb7
  have HO7 := Lib.hid ho7
  obtain ⟨P7, q7, g7, rfl⟩ : ∃ A n c, v7 = .slice A n c := by obtain ⟨A, c, e⟩ := own_slice ho7; exact ⟨A, _, c, e⟩
  have HB7 := Lib.hid hb7
  have HGW := Lib.hid hG
  have k0 : W.cell? ⟨w.heap.size, 0, none⟩ = some (.slice P0 q0 g0) := by rw [Lib.cell_of_heap hG.g0]; rfl
  have k1 : W.cell? ⟨w.heap.size, 1, none⟩ = some (.slice P1 q1 g1) := by rw [Lib.cell_of_heap hG.g0]; rfl
  have k2 : W.cell? ⟨w.heap.size, 2, none⟩ = some (.slice P2 q2 g2) := by rw [Lib.cell_of_heap hG.g0]; rfl
  have k3 : W.cell? ⟨w.heap.size, 3, none⟩ = some (.slice P3 q3 g3) := by rw [Lib.cell_of_heap hG.g0]; rfl
  clear hG ho7 hb7 HCUT HG0
  go_wp2_with fail
  refine (HT9.out _ HGW.out.gb).mono ?_
  rintro e w9 ⟨v1, v2, C3, m3, e3, C4, m4, e4, rfl, o1, o2, b9⟩
  have hG9 := HGW.out.step b9
  have j0 : w9.cell? ⟨w.heap.size, 0, none⟩ = some (.slice P0 q0 g0) := by rw [Lib.cell_of_heap hG9.g0]; rfl
  have j1 : w9.cell? ⟨w.heap.size, 1, none⟩ = some (.slice P1 q1 g1) := by rw [Lib.cell_of_heap hG9.g0]; rfl
  have j2 : w9.cell? ⟨w.heap.size, 2, none⟩ = some (.slice P2 q2 g2) := by rw [Lib.cell_of_heap hG9.g0]; rfl
  have j3 : w9.cell? ⟨w.heap.size, 3, none⟩ = some (.slice P3 q3 g3) := by rw [Lib.cell_of_heap hG9.g0]; rfl
  have f0 := Lib.frozen_of_heap hG9.g0 0
  have f1 := Lib.frozen_of_heap hG9.g0 1
  have f2 := Lib.frozen_of_heap hG9.g0 2
  have f3 := Lib.frozen_of_heap hG9.g0 3
  obtain ⟨B1, r1, d1, rfl⟩ : ∃ A n c, v1 = .slice A n c := by obtain ⟨A, c, e⟩ := own_slice o1; exact ⟨A, _, c, e⟩
  obtain ⟨B2, r2, d2, rfl⟩ : ∃ A n c, v2 = .slice A n c := by obtain ⟨A, c, e⟩ := own_slice o2; exact ⟨A, _, c, e⟩
  have HG9 := Lib.hid hG9
  have HO1 := Lib.hid o1
  have HO2 := Lib.hid o2
  have HB9 := Lib.hid b9
  clear hG9 o1 o2 b9 k0 k1 k2 k3
  go_upto_region 3 with fail
  obtain ⟨v1, hv1⟩ : ∃ v1, v1 = Value.slice B1 r1 d1 := ⟨_, rfl⟩
  obtain ⟨v2, hv2⟩ : ∃ v2, v2 = Value.slice B2 r2 d2 := ⟨_, rfl⟩
  rw [← hv1, ← hv2]
  have ho1 := HO1.out
  have ho2 := HO2.out
  rw [← hv1] at ho1
  rw [← hv2] at ho2
  obtain ⟨X, hX⟩ : ∃ X, X = (((w9.setCell ⟨w.heap.size, 0, none⟩ v1).setCell ⟨w.heap.size, 1, none⟩ v2).setCell ⟨w.heap.size, 2, none⟩ (.slice C3 m3 e3)).setCell ⟨w.heap.size, 3, none⟩ (.slice C4 m4 e4) := ⟨_, rfl⟩
  have x0 : X.heap[w.heap.size]? = some (.cells #[v1, v2, .slice C3 m3 e3, .slice C4 m4 e4] 27 (0, 0)) := by rw [hX]; exact four_set HG9.out.g0 _ _ _ _
  have xo : ∀ j, j ≠ w.heap.size → X.heap[j]? = w9.heap[j]? := fun j hj => by rw [hX]; exact four_other hj _ _ _ _
  have x1 : X.heap[w.heap.size + 1]? = some (.cells #[.slice P4 q4 g4, .slice P5 q5 g5] 30 (0, 0)) := (xo _ (by omega)).trans HG9.out.g1
  have xb : Below w.heap.size w X := by rw [hX]; exact four_below HG9.out.gb (Nat.le_refl _) _ _ _ _
  have hWs : w.heap.size + 2 ≤ W.heap.size := by have := HB7.out.size; rw [HSZ0.out] at this; exact this
  have hW9 : W.heap.size ≤ w9.heap.size := HB9.out.size
  have R1 := Lib.hid ((ho1.heap (fun k hk => xo k (by have := (ho1.lt k hk).1; omega))).rowC labF_len)
  have R2 := Lib.hid ((ho2.heap (fun k hk => xo k (by have := (ho2.lt k hk).1; omega))).rowC hdF_len)
  have RI := Lib.hid (((HO7.out.below HB9.out).heap (fun k hk => xo k (by have := (HO7.out.lt k hk).1; rw [HSZ0.out] at this; omega))).rowC itF_len)
  have HX0 := Lib.hid x0
  have HX1 := Lib.hid x1
  have HXB := Lib.hid xb
  rw [← hX]
  clear x0 x1 xb xo hX ho1 ho2 hv1 hv2 hWs hW9 HO1 HO2 HB9 HO7 HG9 HGW HB7 j0 j1 j2 j3 f0 f1 f2 f3
  obtain ⟨L, hLe⟩ : ∃ L, L = (l0.take 40).map itCut := ⟨_, rfl⟩
  rw [← hLe] at RI HLE
  clear hLe
  have HS3 := Lib.hid (fun wx (hb : Below X.heap.size X wx) => (by
    have h1 := (hb.block _ (lt_of_block HX1.out)).trans HX1.out
    exact ⟨by rw [Lib.cell_of_heap h1]; rfl, by rw [Lib.cell_of_heap h1]; rfl⟩ : (fun wz : World => wz.cell? ⟨w.heap.size + 1, 0, none⟩ = some (.slice P4 q4 g4) ∧ wz.cell? ⟨w.heap.size + 1, 1, none⟩ = some (.slice P5 q5 g5)) wx))
  have HS4 := Lib.hid (fun wx (hb : Below X.heap.size X wx) => (by
    have h1 := (hb.block _ (lt_of_block HX0.out)).trans HX0.out
    exact ⟨by rw [Lib.cell_of_heap h1]; rfl, by rw [Lib.cell_of_heap h1]; rfl, by rw [Lib.cell_of_heap h1]; rfl, by rw [Lib.cell_of_heap h1]; rfl⟩ : (fun wz : World => wz.cell? ⟨w.heap.size, 0, none⟩ = some v1 ∧ wz.cell? ⟨w.heap.size, 1, none⟩ = some v2 ∧ wz.cell? ⟨w.heap.size, 2, none⟩ = some (.slice C3 m3 e3) ∧ wz.cell? ⟨w.heap.size, 3, none⟩ = some (.slice C4 m4 e4)) wx))
  have VX := Lib.hid (fun wx (hb : Below X.heap.size X wx) => HXB.out.trans (hb.mono HXB.out.size))
  obtain ⟨s1, hs1⟩ : ∃ s1, s1 = run ⟨LB, HB, CB, IB⟩ L := ⟨_, rfl⟩
  have HBD1 := Lib.hid (show Bd s1 40600 by rw [hs1]; exact (run_bd HEOK.out L HLE.out.2).1.mono (by have := HLE.out.1; omega))
  have HS1 := Lib.hid hs1
  clear hs1
  have hc0 : Below X.heap.size X X.drew := (Below.refl _ _).drew
  have hS0 := HS3.out _ hc0
  refine wp_region_headS 6 (fun wz : World => wz.cell? ⟨w.heap.size + 1, 0, none⟩ = some (.slice P4 q4 g4) ∧ wz.cell? ⟨w.heap.size + 1, 1, none⟩ = some (.slice P5 q5 g5)) (by kernel_rfl) (by kernel_rfl) ?_
  refine WS_take (i := 0) (v := ?vr0) (by simp only [List.getElem?_toArray, List.getElem?_cons_zero]; rfl) (by decide) (by kernel_rfl) (by kernel_rfl) (by intro _ _ _ h; exact h) (Or.inl ⟨by rfl, ?hyr0⟩) hS0 ?restr0
  case hyr0 =>
    intro wx hx
    obtain ⟨s1, s2⟩ := hx
    go_simp
    try with_reducible rfl
  try simp only [Act.put, List.setIfInBounds_toArray, List.set_cons_zero, List.set_cons_succ]
  refine WS_take (i := 1) (v := ?vr1) (by simp only [List.getElem?_toArray, List.getElem?_cons_succ, List.getElem?_cons_zero]; rfl) (by decide) (by kernel_rfl) (by kernel_rfl) (by intro _ _ _ h; exact h) (Or.inl ⟨by rfl, ?hyr1⟩) hS0 ?restr1
  case hyr1 =>
    intro wx hx
    obtain ⟨s1, s2⟩ := hx
    go_simp
    try with_reducible rfl
  try simp only [Act.put, List.setIfInBounds_toArray, List.set_cons_zero, List.set_cons_succ]
  refine WS_take (i := 3) (v := ?vr3) (by simp only [List.getElem?_toArray, List.getElem?_cons_succ, List.getElem?_cons_zero]; rfl) (by decide) (by kernel_rfl) (by kernel_rfl) (by intro _ _ _ h; exact h) (Or.inl ⟨by rfl, ?hyr3⟩) hS0 ?restr3
  case hyr3 =>
    intro wx hx
    obtain ⟨s1, s2⟩ := hx
    go_simp
    try with_reducible rfl
  try simp only [Act.put, List.setIfInBounds_toArray, List.set_cons_zero, List.set_cons_succ]
  refine WS_take (i := 4) (v := ?vr4) (by simp only [List.getElem?_toArray, List.getElem?_cons_succ, List.getElem?_cons_zero]; rfl) (by decide) (by kernel_rfl) (by kernel_rfl) (by intro _ _ _ h; exact h) (Or.inl ⟨by rfl, ?hyr4⟩) hS0 ?restr4
  case hyr4 =>
    intro wx hx
    obtain ⟨s1, s2⟩ := hx
    go_simp
    try with_reducible rfl
  try simp only [Act.put, List.setIfInBounds_toArray, List.set_cons_zero, List.set_cons_succ]
  refine WS_one (i := 2) (by simp only [List.getElem?_toArray, List.getElem?_cons_succ, List.getElem?_cons_zero]; rfl) (by decide) (by kernel_rfl) (fun K hK => (if_pos (by kernel_rfl)).mpr ?_)
  go_simp
  refine (HT10.out _ (VX.out _ hc0)).mono ?_
  rintro e w10 ⟨A10, n10, d10, rfl, r10, c10⟩
  dsimp only
  have hc10 := below_via hc0 c10
  have hS10 := HS3.out _ hc10
  refine hK _ _ hS10 ?_
  clear hK K hS0 c10
  try simp only [Act.put, List.setIfInBounds_toArray, List.set_cons_zero, List.set_cons_succ]
  refine WS_one (i := 5) (by simp only [List.getElem?_toArray, List.getElem?_cons_succ, List.getElem?_cons_zero]; rfl) (by decide) (by kernel_rfl) (fun K hK => (if_pos (by kernel_rfl)).mpr ?_)
  go_simp
  refine (HT11.out _ (VX.out _ hc10)).mono ?_
  rintro e w11 ⟨A11, n11, d11, rfl, r11, c11⟩
  dsimp only
  have hc11 := below_via hc10 c11
  have hS11 := HS3.out _ hc11
  have HR10 := Lib.hid (r10.step c11)
  have HR11 := Lib.hid r11
  have HC11 := Lib.hid hc11
  refine hK _ _ hS11 ?_
  clear hK K hS10 hS11 c11 r10 r11 hc10 hc11 hc0
  try simp only [Act.put, List.setIfInBounds_toArray, List.set_cons_zero, List.set_cons_succ]
  refine WS_done (by kernel_rfl) ?_
  simp only [List.drop_succ_cons, List.drop_zero]
  go_upto_region 4 with fail
  have hd0 : Below w11.heap.size w11 w11.drew := (Below.refl _ _).drew
  have hS0 := HS4.out _ (below_via HC11.out hd0)
  have HGL := Lib.hid (fun wx (hb : Below w11.heap.size w11 wx) => HG.out.below (VX.out _ (below_via HC11.out hb)))
  have q1 := fun wx (hb : Below w11.heap.size w11 wx) => R1.out.step (below_via HC11.out hb)
  have q2 := fun wx (hb : Below w11.heap.size w11 wx) => R2.out.step (below_via HC11.out hb)
  have qi := fun wx (hb : Below w11.heap.size w11 wx) => RI.out.step (below_via HC11.out hb)
  have hN : ∀ wx, Below w11.heap.size w11 wx → Calls Tryz.prog 10 #[.slice P7 q7 g7, .agg #[v1, v2, .slice C3 m3 e3, .slice C4 m4 e4], .slice A10 n10 d10, .slice A11 n11 d11] wx (NumPost wx s1) := fun wx hb => by
    rw [HS1.out]
    exact number_any _ _ _ _ _ _ _ L (qi wx hb) (by have := HLE.out.1; omega) HLE.out.2 ⟨q1 wx hb, q2 wx hb, HR10.out.step hb, HR11.out.step hb, HEOK.out, fun wy hb2 => HGL.out wy (below_via hb hb2)⟩ ⟨_, _, _, rfl⟩ ⟨_, _, _, rfl⟩
  have hRf : ∀ wx, Below w11.heap.size w11 wx → Calls Tryz.prog 12 #[.slice P7 q7 g7] wx fun e w' => ∃ A n c, e = .returned (.slice A n c) ∧ RowC 2 itF w' w'.heap.size (.slice A n c) L ∧ Below wx.heap.size wx w' := fun wx hb =>
    (r9refs_any (.slice P7 q7 g7) L (qi wx hb) (by have := HLE.out.1; omega)).mono fun e w' ⟨v, he, o, hbb⟩ => by obtain ⟨A, c, hv⟩ := own_slice o; exact ⟨A, _, c, by rw [he, hv], by rw [← hv]; exact o.rowC itF_len, hbb⟩
  have hR10 : ∀ wx, Below w11.heap.size w11 wx → Calls Tryz.prog 13 #[.agg #[v1, v2, .slice C3 m3 e3, .slice C4 m4 e4]] wx fun e w' => ∃ u1 u2, e = .returned (.agg #[u1, u2, .slice C3 m3 e3, .slice C4 m4 e4]) ∧ RowC 3 labF w' w'.heap.size u1 LB ∧ RowC 4 hdF w' w'.heap.size u2 HB ∧ Below wx.heap.size wx w' := fun wx hb =>
    (ref_any v1 v2 (.slice C3 m3 e3) (.slice C4 m4 e4) LB HB (q1 wx hb) (q2 wx hb) HNN.out.1 HNN.out.2.1 ⟨_, _, _, rfl⟩ ⟨_, _, _, rfl⟩).mono fun e w' ⟨u1, u2, he, o1, o2, hbb⟩ => ⟨u1, u2, he, o1.rowC labF_len, o2.rowC hdF_len, hbb⟩
  have hCi : ∀ wx, Below w11.heap.size w11 wx → Calls Tryz.prog 14 #[.slice A10 n10 d10] wx fun e w' => ∃ A n c, e = .returned (.slice A n c) ∧ RowC 3 ciF w' w'.heap.size (.slice A n c) CB ∧ Below wx.heap.size wx w' := fun wx hb =>
    (r11cites_any (.slice A10 n10 d10) CB (HR10.out.step hb) HNN.out.2.2).mono fun e w' ⟨v, he, o, hbb⟩ => by obtain ⟨A, c, hv⟩ := own_slice o; exact ⟨A, _, c, by rw [he, hv], by rw [← hv]; exact o.rowC ciF_len, hbb⟩
  have hRN : ∀ wx a1 u1 u2 a2, Below w11.heap.size w11 wx → RowC 2 itF wx wx.heap.size a1 L → RowC 3 labF wx wx.heap.size u1 LB → RowC 4 hdF wx wx.heap.size u2 HB → RowC 3 ciF wx wx.heap.size a2 CB → Calls Tryz.prog 11 #[a1, .agg #[u1, u2, .slice C3 m3 e3, .slice C4 m4 e4], a2, .slice A11 n11 d11] wx (RNumPost wx s1) := fun wx a1 u1 u2 a2 hb h1 h2 h3 h4 => by
    rw [HS1.out]
    exact rnumber_any a1 u1 u2 _ _ a2 _ L h1 (by have := HLE.out.1; omega) HLE.out.2 ⟨h2, h3, h4, HR11.out.step hb, HEOK.out⟩ ⟨_, _, _, rfl⟩ ⟨_, _, _, rfl⟩
  have KN := Lib.hid hN
  have KRf := Lib.hid hRf
  have KR10 := Lib.hid hR10
  have KCi := Lib.hid hCi
  have KRN := Lib.hid hRN
  have KFX := Lib.hid (fun wx (hb : Below w11.heap.size w11 wx) => fixed_any wx (fun wy hb2 => HGL.out wy (below_via hb hb2)))
  have KS4 := Lib.hid (fun wx (hb : Below w11.heap.size w11 wx) => HS4.out wx (below_via HC11.out hb))
  clear q1 q2 qi hN hRf hR10 hCi hRN
  refine wp_region_headS 12 (fun wz : World => wz.cell? ⟨w.heap.size, 0, none⟩ = some v1 ∧ wz.cell? ⟨w.heap.size, 1, none⟩ = some v2 ∧ wz.cell? ⟨w.heap.size, 2, none⟩ = some (.slice C3 m3 e3) ∧ wz.cell? ⟨w.heap.size, 3, none⟩ = some (.slice C4 m4 e4)) (by kernel_rfl) (by kernel_rfl) ?_
  refine WS_take (i := 0) (v := ?vq0) (by simp only [List.getElem?_toArray, List.getElem?_cons_zero]; rfl) (by decide) (by kernel_rfl) (by kernel_rfl) (by intro _ _ _ h; exact h) (Or.inl ⟨by rfl, ?hyq0⟩) hS0 ?restq0
  case hyq0 =>
    intro wx hx
    obtain ⟨s1, s2, s3, s4⟩ := hx
    go_simp
    try with_reducible rfl
  try simp only [Act.put, List.setIfInBounds_toArray, List.set_cons_zero, List.set_cons_succ]
  refine WS_take (i := 1) (v := ?vq1) (by simp only [List.getElem?_toArray, List.getElem?_cons_succ, List.getElem?_cons_zero]; rfl) (by decide) (by kernel_rfl) (by kernel_rfl) (by intro _ _ _ h; exact h) (Or.inl ⟨by rfl, ?hyq1⟩) hS0 ?restq1
  case hyq1 =>
    intro wx hx
    obtain ⟨s1, s2, s3, s4⟩ := hx
    go_simp
    try with_reducible rfl
  try simp only [Act.put, List.setIfInBounds_toArray, List.set_cons_zero, List.set_cons_succ]
  refine WS_take (i := 2) (v := ?vq2) (by simp only [List.getElem?_toArray, List.getElem?_cons_succ, List.getElem?_cons_zero]; rfl) (by decide) (by kernel_rfl) (by kernel_rfl) (by intro _ _ _ h; exact h) (Or.inl ⟨by rfl, ?hyq2⟩) hS0 ?restq2
  case hyq2 =>
    intro wx hx
    obtain ⟨s1, s2, s3, s4⟩ := hx
    go_simp
    try with_reducible rfl
  try simp only [Act.put, List.setIfInBounds_toArray, List.set_cons_zero, List.set_cons_succ]
  refine WS_take (i := 3) (v := ?vq3) (by simp only [List.getElem?_toArray, List.getElem?_cons_succ, List.getElem?_cons_zero]; rfl) (by decide) (by kernel_rfl) (by kernel_rfl) (by intro _ _ _ h; exact h) (Or.inl ⟨by rfl, ?hyq3⟩) hS0 ?restq3
  case hyq3 =>
    intro wx hx
    obtain ⟨s1, s2, s3, s4⟩ := hx
    go_simp
    try with_reducible rfl
  try simp only [Act.put, List.setIfInBounds_toArray, List.set_cons_zero, List.set_cons_succ]
  refine WS_take (i := 5) (v := ?vq5) (by simp only [List.getElem?_toArray, List.getElem?_cons_succ, List.getElem?_cons_zero]; rfl) (by decide) (by kernel_rfl) (by kernel_rfl) (by intro _ _ _ h; exact h) (Or.inl ⟨by rfl, ?hyq5⟩) hS0 ?restq5
  case hyq5 =>
    intro wx hx
    obtain ⟨s1, s2, s3, s4⟩ := hx
    go_simp
    try with_reducible rfl
  try simp only [Act.put, List.setIfInBounds_toArray, List.set_cons_zero, List.set_cons_succ]
  refine WS_take (i := 7) (v := ?vq7) (by simp only [List.getElem?_toArray, List.getElem?_cons_succ, List.getElem?_cons_zero]; rfl) (by decide) (by kernel_rfl) (by kernel_rfl) (by intro _ _ _ h; exact h) (Or.inl ⟨by rfl, ?hyq7⟩) hS0 ?restq7
  case hyq7 =>
    intro wx hx
    obtain ⟨s1, s2, s3, s4⟩ := hx
    go_simp
    try with_reducible rfl
  try simp only [Act.put, List.setIfInBounds_toArray, List.set_cons_zero, List.set_cons_succ]
  refine WS_take (i := 9) (v := ?vq9) (by simp only [List.getElem?_toArray, List.getElem?_cons_succ, List.getElem?_cons_zero]; rfl) (by decide) (by kernel_rfl) (by kernel_rfl) (by intro _ _ _ h; exact h) (Or.inl ⟨by rfl, ?hyq9⟩) hS0 ?restq9
  case hyq9 =>
    intro wx hx
    obtain ⟨s1, s2, s3, s4⟩ := hx
    go_simp
    try with_reducible rfl
  try simp only [Act.put, List.setIfInBounds_toArray, List.set_cons_zero, List.set_cons_succ]
  refine WS_take (i := 11) (v := ?vq11) (by simp only [List.getElem?_toArray, List.getElem?_cons_succ, List.getElem?_cons_zero]; rfl) (by decide) (by kernel_rfl) (by kernel_rfl) (by intro _ _ _ h; exact h) (Or.inl ⟨by rfl, ?hyq11⟩) hS0 ?restq11
  case hyq11 =>
    intro wx hx
    obtain ⟨s1, s2, s3, s4⟩ := hx
    go_simp
    try with_reducible rfl
  try simp only [Act.put, List.setIfInBounds_toArray, List.set_cons_zero, List.set_cons_succ]
  refine WS_one (i := 4) (by simp only [List.getElem?_toArray, List.getElem?_cons_succ, List.getElem?_cons_zero]; rfl) (by decide) (by kernel_rfl) (fun K hK => (if_pos (by kernel_rfl)).mpr ?_)
  go_simp
  refine (KN.out _ hd0).mono ?_
  rintro e w12 ⟨va, rfl, ow12, c12⟩
  dsimp only
  have hd12 := below_via hd0 c12
  have hS12 := KS4.out _ hd12
  have o12 := ow_out ow12
  refine hK _ _ hS12 ?_
  clear hK K hS0 ow12 c12
  try simp only [Act.put, List.setIfInBounds_toArray, List.set_cons_zero, List.set_cons_succ]
  refine WS_one (i := 6) (by simp only [List.getElem?_toArray, List.getElem?_cons_succ, List.getElem?_cons_zero]; rfl) (by decide) (by kernel_rfl) (fun K hK => (if_pos (by kernel_rfl)).mpr ?_)
  go_simp
  refine (KRf.out _ hd12).mono ?_
  rintro e w13 ⟨A13, n13, d13, rfl, r13, c13⟩
  dsimp only
  have hd13 := below_via hd12 c13
  have hS13 := KS4.out _ hd13
  have o13 := o12.step c13
  refine hK _ _ hS13 ?_
  clear hK K hS12 c13 o12
  try simp only [Act.put, List.setIfInBounds_toArray, List.set_cons_zero, List.set_cons_succ]
  refine WS_one (i := 8) (by simp only [List.getElem?_toArray, List.getElem?_cons_succ, List.getElem?_cons_zero]; rfl) (by decide) (by kernel_rfl) (fun K hK => (if_pos (by kernel_rfl)).mpr ?_)
  go_simp
  refine (KR10.out _ hd13).mono ?_
  rintro e w14 ⟨u1, u2, rfl, x1, x2, c14⟩
  dsimp only
  have hd14 := below_via hd13 c14
  have hS14 := KS4.out _ hd14
  have o14 := o13.step c14
  have r14 := r13.step c14
  refine hK _ _ hS14 ?_
  clear hK K hS13 c14 o13 r13
  try simp only [Act.put, List.setIfInBounds_toArray, List.set_cons_zero, List.set_cons_succ]
  refine WS_one (i := 10) (by simp only [List.getElem?_toArray, List.getElem?_cons_succ, List.getElem?_cons_zero]; rfl) (by decide) (by kernel_rfl) (fun K hK => (if_pos (by kernel_rfl)).mpr ?_)
  go_simp
  refine (KCi.out _ hd14).mono ?_
  rintro e w15 ⟨A15, n15, d15, rfl, r15, c15⟩
  dsimp only
  have hd15 := below_via hd14 c15
  have hS15 := KS4.out _ hd15
  have HO15 := Lib.hid (o14.step c15)
  have KRN15 := Lib.hid (KRN.out _ _ _ _ _ hd15 (r14.step c15) (x1.step c15) (x2.step c15) r15)
  have HD15 := Lib.hid hd15
  refine hK _ _ hS15 ?_
  clear hK K hS14 hS15 c15 o14 r14 r15 x1 x2 hd0 hd12 hd13 hd14 hd15
  try simp only [Act.put, List.setIfInBounds_toArray, List.set_cons_zero, List.set_cons_succ]
  refine WS_done (by kernel_rfl) ?_
  simp only [List.drop_succ_cons, List.drop_zero]
  go_wp2_with fail
  refine KRN15.out.mono ?_
  rintro e w16 ⟨vb, rfl, ow16, c16⟩
  have HO16 := Lib.hid (row_out ow16)
  have HO15' := Lib.hid (HO15.out.step c16)
  have HD16 := Lib.hid (below_via HD15.out c16)
  clear ow16 c16
  go_wp2_with fail
  refine (same11_any HO15'.out HO16.out 40600 (by omega) HBD1.out).mono ?_
  rintro e w17 ⟨rfl, c17⟩
  have HD17 := Lib.hid (below_via HD16.out c17)
  clear c17
  go_wp2_with fail
  refine (KFX.out _ HD17.out).mono ?_
  rintro e w18 ⟨rfl, c18⟩
  have HD18 := Lib.hid (VX.out _ (below_via HC11.out (below_via HD17.out c18)))
  clear c18
  go_wp2_with fail
  go_ret
  exact ⟨rfl, HD18.out⟩
end Go.Proofs.YtjmmfihmamcopaaGreatDoor
