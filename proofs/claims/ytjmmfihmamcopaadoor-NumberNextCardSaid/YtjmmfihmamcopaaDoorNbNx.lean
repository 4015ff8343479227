/- stetlaw11.NumberNext. -/
import Derived.Test.YtjmmfihmamcopaaDoorNbL0
import Derived.Test.YtjmmfihmamcopaaDoorNbCx
import Derived.Test.YtjmmfihmamcopaaDoorNbIn
namespace Go.Proofs.YtjmmfihmamcopaaDoor
open Go.RowKit Tx Nb

/-- An Out that lies in a block of its own. -/
def OutAt (w0 wr : World) (X : Nat) (s : St) : Prop :=
  ∃ v : Nat → Value, wr.heap[X]? = some (.cells #[v 0, v 1, v 2, v 3, v 4, v 5, v 6, v 7, v 8, v 9] 36 (0, 0)) ∧ OutIs wr v s ∧ w0.heap.size ≤ X ∧ Below w0.heap.size w0 wr
theorem OutAt.made {w0 w : World} {v : Nat → Value} {s : St} (h : OutIs w v s) (hb : Below w0.heap.size w0 w) : OutAt w0 (w.alloc (.cells #[v 0, v 1, v 2, v 3, v 4, v 5, v 6, v 7, v 8, v 9] 36)) w.heap.size s :=
  ⟨v, heap_alloc_new w _, h.step ((Below.refl _ _).alloc (Nat.le_refl _) _), hb.size, hb.alloc hb.size _⟩
theorem OutAt.put {w0 w : World} {B X : Nat} {v : Nat → Value} {s : St} {z0 z1 z2 z3 z4 z5 z6 z7 z8 z9 : Value} (h : Ow B w [] v (10 + s.blocks.length) (desc s v)) (hb : Below w0.heap.size w0 w) (hX : w0.heap.size ≤ X) (hXB : X < B) (hx : w.heap[X]? = some (.cells #[z0, z1, z2, z3, z4, z5, z6, z7, z8, z9] 36 (0, 0))) :
    OutAt w0 ((((((((((w.setCell ⟨X, 0, none⟩ (v 0)).setCell ⟨X, 1, none⟩ (v 1)).setCell ⟨X, 2, none⟩ (v 2)).setCell ⟨X, 3, none⟩ (v 3)).setCell ⟨X, 4, none⟩ (v 4)).setCell ⟨X, 5, none⟩ (v 5)).setCell ⟨X, 6, none⟩ (v 6)).setCell ⟨X, 7, none⟩ (v 7)).setCell ⟨X, 8, none⟩ (v 8)).setCell ⟨X, 9, none⟩ (v 9)) X s := by
  refine ⟨v, ten_set hx _ _ _ _ _ _ _ _ _ _, ?_, hX, ten_below hb hX _ _ _ _ _ _ _ _ _ _⟩
  refine ow_out (B := B) ⟨fun i hi => ?_, h.dis, h.out⟩
  exact own_heap (h.own i hi) (fun k hk => ten_other (by have := (h.lt hi k hk).1; omega) _ _ _ _ _ _ _ _ _ _)
set_option maxRecDepth 100000 in
set_option maxHeartbeats 32000000 in
theorem next_any {w : World} (vl : Value) (l0 : List It) (x : SdIn) (y : GvIn) (hr : RowC 2 itF w w.heap.size vl l0) (ok : ∀ z ∈ l0, ItOk z) (hx : SdOk w x) (hy : GvOk w y) (hg : Gl w) :
    Calls Tryd.prog 3 #[vl, .agg #[x.v0, x.v1, x.v2, x.v3], .agg #[y.v0, y.v1]] w fun e w' => e = .returned (.bool true) ∧ Below w.heap.size w w' := by
  obtain ⟨xv0, xv1, xv2, xv3, xl, xh, xc, xb⟩ := x
  obtain ⟨yv0, yv1, yc, yi⟩ := y
  obtain ⟨hx0, hx1, hx2, hx3, hx4, hx5, hx6, hx7⟩ := hx
  obtain ⟨hy0, hy1, hy2, hy3⟩ := hy
  simp only at hx0 hx1 hx2 hx3 hx4 hx5 hx6 hx7 hy0 hy1 hy2 hy3 ⊢
  have key : ∀ {α : Type} {n : Nat} {f : α → List Value} {B : Nat} {v : Value} {l : List α}, RowC n f w B v l → ∃ A n c, v = .slice A n c := fun h => by obtain ⟨A, c, e, _⟩ := h.shape; exact ⟨A, _, c, e⟩
  obtain ⟨P0, q0, g0, rfl⟩ := key hx0
  obtain ⟨P1, q1, g1, rfl⟩ := key hx1
  obtain ⟨P2, q2, g2, rfl⟩ := key hx2
  obtain ⟨P3, q3, g3, rfl⟩ := key hx3
  obtain ⟨P4, q4, g4, rfl⟩ := key hy0
  obtain ⟨P5, q5, g5, rfl⟩ := key hy1
  obtain ⟨P6, q6, g6, rfl⟩ := key hr
  clear key
  have ht9 : ∀ wx, Below w.heap.size w wx → Calls Tryd.prog 9 #[.agg #[(.slice P0 q0 g0), (.slice P1 q1 g1), (.slice P2 q2 g2), (.slice P3 q3 g3)], .int .i64 8] wx fun e w' => ∃ v1 v2 C3 m3 e3 C4 m4 e4, e = .returned (.agg #[v1, v2, .slice C3 m3 e3, .slice C4 m4 e4]) ∧ RowC 3 labF w' w'.heap.size v1 ((xl.take 8).map labCut) ∧ RowC 4 hdF w' w'.heap.size v2 ((xh.take 8).map hdCut) ∧ True ∧ True ∧ Below wx.heap.size wx w' := fun wx hb =>
    (l10cut_any (.slice P0 q0 g0) (.slice P1 q1 g1) (.slice P2 q2 g2) (.slice P3 q3 g3) xl xh xc xb (hx0.step hb) (hx1.step hb) (hx2.step hb) (hx3.step hb) (fun z hz => ⟨(hx4 z hz).1, (hx4 z hz).2.1⟩) (fun z hz => ⟨(hx5 z hz).2.1, (hx5 z hz).2.2.1⟩) hx6 hx7 8 (by decide)).mono fun e w' ⟨v1, v2, C3, m3, e3, C4, m4, e4, he, o1, o2, hbb⟩ => ⟨v1, v2, C3, m3, e3, C4, m4, e4, he, o1.rowC labF_len, o2.rowC hdF_len, trivial, trivial, hbb⟩
  have ht10 : ∀ wx, Below w.heap.size w wx → Calls Tryd.prog 10 #[(.slice P4 q4 g4)] wx fun e w' => ∃ A n c, e = .returned (.slice A n c) ∧ RowC 3 ciF w' w'.heap.size (.slice A n c) ((yc.take 6).map ciCut) ∧ Below wx.heap.size wx w' := fun wx hb =>
    (bbl_any (.slice P4 q4 g4) yc (hy0.step hb) hy2).mono fun e w' ⟨v, he, o, hbb⟩ => by obtain ⟨A, c, hv⟩ := own_slice o; exact ⟨A, _, c, by rw [he, hv], by rw [← hv]; exact o.rowC ciF_len, hbb⟩
  have ht11 : ∀ wx, Below w.heap.size w wx → Calls Tryd.prog 11 #[(.slice P5 q5 g5)] wx fun e w' => ∃ A n c, e = .returned (.slice A n c) ∧ RowC 1 txF w' w'.heap.size (.slice A n c) ((yi.take 6).map (List.take 60)) ∧ Below wx.heap.size wx w' := fun wx hb =>
    (cut11_any (.slice P5 q5 g5) yi (hy1.step hb) hy3).mono fun e w' ⟨v, he, o, hbb⟩ => by obtain ⟨A, c, hv⟩ := own_slice o; exact ⟨A, _, c, by rw [he, hv], by rw [← hv]; exact o.rowC txF_len, hbb⟩
  have hEok : (Env.mk ((xl.take 8).map labCut) ((xh.take 8).map hdCut) ((yc.take 6).map ciCut) ((yi.take 6).map (List.take 60))).Ok := by
    refine ⟨by simp; omega, fun z hz => ?_, by simp; omega, fun z hz => ?_, by simp; omega, fun z hz => ?_, by simp; omega, fun z hz => ?_⟩
    · obtain ⟨u, _, rfl⟩ := List.mem_map.1 hz; simp only [labCut, List.length_take]; omega
    · obtain ⟨u, _, rfl⟩ := List.mem_map.1 hz; simp only [hdCut, List.length_take]; omega
    · obtain ⟨u, _, rfl⟩ := List.mem_map.1 hz; simp only [ciCut, List.length_take]; omega
    · obtain ⟨u, _, rfl⟩ := List.mem_map.1 hz; simp only [List.length_take]; omega
  have hL : ((l0.take 40).map itCut).length ≤ 40 := by simp; omega
  have hLx : ∀ z ∈ (l0.take 40).map itCut, z.s.length ≤ 100 := fun z hz => by
    obtain ⟨u, _, rfl⟩ := List.mem_map.1 hz
    simp only [itCut, List.length_take]
    omega
  generalize (xl.take 8).map labCut = LB at *
  generalize (xh.take 8).map hdCut = HB at *
  generalize (yc.take 6).map ciCut = CB at *
  generalize (yi.take 6).map (List.take 60) = IB at *
  have HG := Lib.hid hg
  obtain ⟨W0, hW0⟩ : ∃ W0, W0 = (w.alloc (.cells #[.slice P0 q0 g0, .slice P1 q1 g1, .slice P2 q2 g2, .slice P3 q3 g3] 27)).alloc (.cells #[.slice P4 q4 g4, .slice P5 q5 g5] 30) := ⟨_, rfl⟩
  have hG0 : Gd w (.cells #[.slice P0 q0 g0, .slice P1 q1 g1, .slice P2 q2 g2, .slice P3 q3 g3] 27 (0, 0)) (.cells #[.slice P4 q4 g4, .slice P5 q5 g5] 30 (0, 0)) W0 := by rw [hW0]; exact Gd.made w _ _
  have hcut := l9cut_any (.slice P6 q6 g6) l0 (hr.step hG0.gb) (fun z hz => (ok z hz).2) 40 (by decide)
  have HCUT := Lib.hid hcut
  have HW0 := Lib.hid hW0
  have HG0 := Lib.hid hG0
  have HT9' := Lib.hid ht9
  have HT10' := Lib.hid ht10
  have HT11' := Lib.hid ht11
  have HEOK := Lib.hid hEok
  have HLE := Lib.hid (And.intro hL hLx)
  clear hx0 hx1 hx2 hx3 hx4 hx5 hx6 hx7 hy0 hy1 hy2 hy3 ht9 ht10 ht11 hEok hL hLx hcut hg hW0 hG0 hr ok
  go_enter Tryd.func3, Tryd.ntmps3
  go_upto_region 1 with fail
  rw [← HW0.out]
  go_wp2_with fail
  refine HCUT.out.mono ?_
  rintro e W ⟨v7, rfl, ho7, hb7⟩
  have hG := HG0.out.step hb7
  have hIT := ho7.rowC itF_len
  obtain ⟨P7, q7, g7, rfl⟩ : ∃ A n c, v7 = .slice A n c := by obtain ⟨A, c, e⟩ := own_slice ho7; exact ⟨A, _, c, e⟩
  have hLE := HLE.out
  generalize (l0.take 40).map itCut = L at *
  obtain ⟨s1, hs1⟩ : ∃ s1, s1 = run ⟨LB, HB, CB, IB⟩ L := ⟨_, rfl⟩
  obtain ⟨s2, hs2⟩ : ∃ s2, s2 = run E1 L := ⟨_, rfl⟩
  have hal : Nb.Alike s1 s2 := by rw [hs1, hs2]; exact run_al _ _ L
  have hbd1 : Bd s1 40600 := by rw [hs1]; exact (run_bd HEOK.out L hLE.2).1.mono (by have := hLE.1; omega)
  have HAL := Lib.hid hal
  have HBD1 := Lib.hid hbd1
  have HIT := Lib.hid hIT
  have HGW := Lib.hid (fun wx (hb : Below W.heap.size W wx) => HG.out.below (hG.gb.trans (hb.mono hG.gb.size)))
  have HT9 := Lib.hid (fun wx (hb : Below W.heap.size W wx) => HT9'.out wx (hG.gb.trans (hb.mono hG.gb.size)))
  have HT10 := Lib.hid (fun wx (hb : Below W.heap.size W wx) => HT10'.out wx (hG.gb.trans (hb.mono hG.gb.size)))
  have HT11 := Lib.hid (fun wx (hb : Below W.heap.size W wx) => HT11'.out wx (hG.gb.trans (hb.mono hG.gb.size)))
  have ht8 : ∀ wx v1 v2 C3 m3 e3 C4 m4 e4 b i, Below W.heap.size W wx → RowC 3 labF wx wx.heap.size v1 LB → RowC 4 hdF wx wx.heap.size v2 HB → RowC 3 ciF wx wx.heap.size b CB → RowC 1 txF wx wx.heap.size i IB → Calls Tryd.prog 8 #[.slice P7 q7 g7, .agg #[v1, v2, .slice C3 m3 e3, .slice C4 m4 e4], b, i] wx (NumPost wx s1) := fun wx v1 v2 C3 m3 e3 C4 m4 e4 b i hb r1 r2 r3 r4 => by
    rw [hs1]
    exact number_any _ _ _ _ _ _ _ L (HIT.out.step hb) (by have := hLE.1; omega) hLE.2 ⟨r1, r2, r3, r4, HEOK.out, fun wy hb2 => HGW.out wy (below_via hb hb2)⟩ ⟨_, _, _, rfl⟩ ⟨_, _, _, rfl⟩
  have ht1 : ∀ wx, Below W.heap.size W wx → Calls Tryd.prog 8 #[.slice P7 q7 g7, .agg #[.slice none 0 0, .slice none 0 0, .slice none 0 0, .slice none 0 0], .slice none 0 0, .slice none 0 0] wx (NumPost wx s2) := fun wx hb => by
    rw [hs2]
    exact num1_any _ L (HIT.out.step hb) (by have := hLE.1; omega) hLE.2 (HGW.out wx hb)
  have HT8 := Lib.hid ht8
  have HT1 := Lib.hid ht1
  have hwl : w.heap.size + 1 < W.heap.size := lt_of_block hG.g1
  have HWL := Lib.hid hwl
  have HGG := Lib.hid hG
  have HG0B := Lib.hid hG.gb
  clear hIT hb7 ho7 hal hbd1 hs1 hs2 ht8 ht1 hwl HCUT HT9' HT10' HT11' HEOK HLE hLE
  go_upto_region 2 with fail
  go_cut [7] (fun x7 wr => ∃ X : Nat, x7 = .pointer (some ⟨X, 0, none⟩) ∧ OutAt W wr X s1)
  case first =>
    have k0 : W.cell? ⟨w.heap.size, 0, none⟩ = some (.slice P0 q0 g0) := by rw [Lib.cell_of_heap hG.g0]; rfl
    have k1 : W.cell? ⟨w.heap.size, 1, none⟩ = some (.slice P1 q1 g1) := by rw [Lib.cell_of_heap hG.g0]; rfl
    have k2 : W.cell? ⟨w.heap.size, 2, none⟩ = some (.slice P2 q2 g2) := by rw [Lib.cell_of_heap hG.g0]; rfl
    have k3 : W.cell? ⟨w.heap.size, 3, none⟩ = some (.slice P3 q3 g3) := by rw [Lib.cell_of_heap hG.g0]; rfl
    have k4 : W.cell? ⟨w.heap.size + 1, 0, none⟩ = some (.slice P4 q4 g4) := by rw [Lib.cell_of_heap hG.g1]; rfl
    have k5 : W.cell? ⟨w.heap.size + 1, 1, none⟩ = some (.slice P5 q5 g5) := by rw [Lib.cell_of_heap hG.g1]; rfl
    have neWa : w.heap.size ≠ W.heap.size := by have := HWL.out; omega
    have neWb : W.heap.size ≠ w.heap.size := by have := HWL.out; omega
    have neWc : w.heap.size + 1 ≠ W.heap.size := by have := HWL.out; omega
    have neWd : W.heap.size ≠ w.heap.size + 1 := by have := HWL.out; omega
    go_region_held3 (fun wx : World => wx.cell? ⟨w.heap.size, 0, none⟩ = some (.slice P0 q0 g0) ∧ wx.cell? ⟨w.heap.size, 1, none⟩ = some (.slice P1 q1 g1) ∧ wx.cell? ⟨w.heap.size, 2, none⟩ = some (.slice P2 q2 g2) ∧ wx.cell? ⟨w.heap.size, 3, none⟩ = some (.slice P3 q3 g3) ∧ wx.cell? ⟨w.heap.size + 1, 0, none⟩ = some (.slice P4 q4 g4) ∧ wx.cell? ⟨w.heap.size + 1, 1, none⟩ = some (.slice P5 q5 g5)) (go_keep) (first
      | (have hG11x := hG11; go_at_call 8; refine (HT8.out _ _ _ _ _ _ _ _ _ _ _ (by first | exact hB11 | exact hB11.alloc hB11.size _) (by first | exact r1b | exact r1b.step ((Below.refl w11.heap.size w11).alloc (Nat.le_refl _) _)) (by first | exact r2b | exact r2b.step ((Below.refl w11.heap.size w11).alloc (Nat.le_refl _) _)) (by first | exact r10b | exact r10b.step ((Below.refl w11.heap.size w11).alloc (Nat.le_refl _) _)) (by first | exact r11 | exact r11.step ((Below.refl w11.heap.size w11).alloc (Nat.le_refl _) _))).mono ?_; rintro e w8 ⟨v, rfl, how, b8⟩; have hC8 : Below w11.heap.size w11 w8 := (by first | exact b8 | exact ((Below.refl w11.heap.size w11).alloc (Nat.le_refl _) _).trans (b8.mono (by simp))); have hB8 := hB11.trans (hC8.mono hB11.size); have hG8 := hG11.step hC8; (first | (have kw8x := (hC8.block _ (lt_of_block kw11x)).trans kw11x; have d80 := Lib.cell_of_heap kw8x 0; have d81 := Lib.cell_of_heap kw8x 1; have d82 := Lib.cell_of_heap kw8x 2; have d83 := Lib.cell_of_heap kw8x 3; have d84 := Lib.cell_of_heap kw8x 4; have d85 := Lib.cell_of_heap kw8x 5; have d86 := Lib.cell_of_heap kw8x 6; have d87 := Lib.cell_of_heap kw8x 7; have d88 := Lib.cell_of_heap kw8x 8; have d89 := Lib.cell_of_heap kw8x 9; have f80 := Lib.frozen_of_heap kw8x 0; have f81 := Lib.frozen_of_heap kw8x 1; have f82 := Lib.frozen_of_heap kw8x 2; have f83 := Lib.frozen_of_heap kw8x 3; have f84 := Lib.frozen_of_heap kw8x 4; have f85 := Lib.frozen_of_heap kw8x 5; have f86 := Lib.frozen_of_heap kw8x 6; have f87 := Lib.frozen_of_heap kw8x 7; have f88 := Lib.frozen_of_heap kw8x 8; have f89 := Lib.frozen_of_heap kw8x 9; simp only [List.getElem?_toArray, List.getElem?_cons_succ, List.getElem?_cons_zero] at d80 d81 d82 d83 d84 d85 d86 d87 d88 d89) | (have kw8x := (b8.block w11.heap.size (by simp)).trans (heap_alloc_new w11 (.cells #[.slice none 0 0, .slice none 0 0, .slice none 0 0, .slice none 0 0, .slice none 0 0, .slice none 0 0, .slice none 0 0, .slice none 0 0, .slice none 0 0, .slice none 0 0] 36)); have d80 := Lib.cell_of_heap kw8x 0; have d81 := Lib.cell_of_heap kw8x 1; have d82 := Lib.cell_of_heap kw8x 2; have d83 := Lib.cell_of_heap kw8x 3; have d84 := Lib.cell_of_heap kw8x 4; have d85 := Lib.cell_of_heap kw8x 5; have d86 := Lib.cell_of_heap kw8x 6; have d87 := Lib.cell_of_heap kw8x 7; have d88 := Lib.cell_of_heap kw8x 8; have d89 := Lib.cell_of_heap kw8x 9; have f80 := Lib.frozen_of_heap kw8x 0; have f81 := Lib.frozen_of_heap kw8x 1; have f82 := Lib.frozen_of_heap kw8x 2; have f83 := Lib.frozen_of_heap kw8x 3; have f84 := Lib.frozen_of_heap kw8x 4; have f85 := Lib.frozen_of_heap kw8x 5; have f86 := Lib.frozen_of_heap kw8x 6; have f87 := Lib.frozen_of_heap kw8x 7; have f88 := Lib.frozen_of_heap kw8x 8; have f89 := Lib.frozen_of_heap kw8x 9; simp only [List.getElem?_toArray, List.getElem?_cons_succ, List.getElem?_cons_zero] at d80 d81 d82 d83 d84 d85 d86 d87 d88 d89) | skip); obtain ⟨⟨A0, c0, e0⟩, ⟨A1, c1, e1⟩, ⟨A2, c2, e2⟩, ⟨A3, c3, e3'⟩, ⟨A4, c4, e4'⟩, ⟨A5, c5, e5⟩, ⟨A6, c6, e6⟩, ⟨A7, c7, e7⟩, ⟨A8, c8, e8⟩, ⟨A9, c9, e9⟩⟩ := (ow_out how).shapes; rw [e0, e1, e2, e3', e4', e5, e6, e7, e8, e9]; have kw80 : w8.cell? ⟨w.heap.size, 0, none⟩ = some (.slice P0 q0 g0) := (by rw [Lib.cell_of_heap hG8.g0]; rfl); have kw81 : w8.cell? ⟨w.heap.size, 1, none⟩ = some (.slice P1 q1 g1) := (by rw [Lib.cell_of_heap hG8.g0]; rfl); have kw82 : w8.cell? ⟨w.heap.size, 2, none⟩ = some (.slice P2 q2 g2) := (by rw [Lib.cell_of_heap hG8.g0]; rfl); have kw83 : w8.cell? ⟨w.heap.size, 3, none⟩ = some (.slice P3 q3 g3) := (by rw [Lib.cell_of_heap hG8.g0]; rfl); have lw80 : w8.cell? ⟨w.heap.size + 1, 0, none⟩ = some (.slice P4 q4 g4) := (by rw [Lib.cell_of_heap hG8.g1]; rfl); have lw81 : w8.cell? ⟨w.heap.size + 1, 1, none⟩ = some (.slice P5 q5 g5) := (by rw [Lib.cell_of_heap hG8.g1]; rfl); dsimp only)
      | (have hG10x := hG10; go_at_call 11; refine (HT11.out _ (by first | exact hB10 | exact hB10.alloc hB10.size _)).mono ?_; rintro e w11 ⟨A11, n11, d11, rfl, r11, b11⟩; have hC11 : Below w10.heap.size w10 w11 := (by first | exact b11 | exact ((Below.refl w10.heap.size w10).alloc (Nat.le_refl _) _).trans (b11.mono (by simp))); have hB11 := hB10.trans (hC11.mono hB10.size); have hG11 := hG10.step hC11; have new11a : w.heap.size ≠ w11.heap.size := (by have h1 := hB11.size; have h2 := HWL.out; omega); have new11b : w11.heap.size ≠ w.heap.size := (by have h1 := hB11.size; have h2 := HWL.out; omega); have new11c : w.heap.size + 1 ≠ w11.heap.size := (by have h1 := hB11.size; have h2 := HWL.out; omega); have new11d : w11.heap.size ≠ w.heap.size + 1 := (by have h1 := hB11.size; have h2 := HWL.out; omega); (first | (have kw11x := (hC11.block _ (lt_of_block kw10x)).trans kw10x) | (have kw11x := (b11.block w10.heap.size (by simp)).trans (heap_alloc_new w10 (.cells #[.slice none 0 0, .slice none 0 0, .slice none 0 0, .slice none 0 0, .slice none 0 0, .slice none 0 0, .slice none 0 0, .slice none 0 0, .slice none 0 0, .slice none 0 0] 36))) | skip); have r1b := r1a.step hC11; have r2b := r2a.step hC11; have r10b := r10.step hC11; have kw110 : w11.cell? ⟨w.heap.size, 0, none⟩ = some (.slice P0 q0 g0) := (by rw [Lib.cell_of_heap hG11.g0]; rfl); have kw111 : w11.cell? ⟨w.heap.size, 1, none⟩ = some (.slice P1 q1 g1) := (by rw [Lib.cell_of_heap hG11.g0]; rfl); have kw112 : w11.cell? ⟨w.heap.size, 2, none⟩ = some (.slice P2 q2 g2) := (by rw [Lib.cell_of_heap hG11.g0]; rfl); have kw113 : w11.cell? ⟨w.heap.size, 3, none⟩ = some (.slice P3 q3 g3) := (by rw [Lib.cell_of_heap hG11.g0]; rfl); have lw110 : w11.cell? ⟨w.heap.size + 1, 0, none⟩ = some (.slice P4 q4 g4) := (by rw [Lib.cell_of_heap hG11.g1]; rfl); have lw111 : w11.cell? ⟨w.heap.size + 1, 1, none⟩ = some (.slice P5 q5 g5) := (by rw [Lib.cell_of_heap hG11.g1]; rfl); dsimp only)
      | (have hG9x := hG9; go_at_call 10; refine (HT10.out _ (by first | exact hB9 | exact hB9.alloc hB9.size _)).mono ?_; rintro e w10 ⟨A10, n10, d10, rfl, r10, b10⟩; have hC10 : Below w9.heap.size w9 w10 := (by first | exact b10 | exact ((Below.refl w9.heap.size w9).alloc (Nat.le_refl _) _).trans (b10.mono (by simp))); have hB10 := hB9.trans (hC10.mono hB9.size); have hG10 := hG9.step hC10; have new10a : w.heap.size ≠ w10.heap.size := (by have h1 := hB10.size; have h2 := HWL.out; omega); have new10b : w10.heap.size ≠ w.heap.size := (by have h1 := hB10.size; have h2 := HWL.out; omega); have new10c : w.heap.size + 1 ≠ w10.heap.size := (by have h1 := hB10.size; have h2 := HWL.out; omega); have new10d : w10.heap.size ≠ w.heap.size + 1 := (by have h1 := hB10.size; have h2 := HWL.out; omega); (first | (have kw10x := (hC10.block _ (lt_of_block kw9x)).trans kw9x) | (have kw10x := (b10.block w9.heap.size (by simp)).trans (heap_alloc_new w9 (.cells #[.slice none 0 0, .slice none 0 0, .slice none 0 0, .slice none 0 0, .slice none 0 0, .slice none 0 0, .slice none 0 0, .slice none 0 0, .slice none 0 0, .slice none 0 0] 36))) | skip); have r1a := r1.step hC10; have r2a := r2.step hC10; have kw100 : w10.cell? ⟨w.heap.size, 0, none⟩ = some (.slice P0 q0 g0) := (by rw [Lib.cell_of_heap hG10.g0]; rfl); have kw101 : w10.cell? ⟨w.heap.size, 1, none⟩ = some (.slice P1 q1 g1) := (by rw [Lib.cell_of_heap hG10.g0]; rfl); have kw102 : w10.cell? ⟨w.heap.size, 2, none⟩ = some (.slice P2 q2 g2) := (by rw [Lib.cell_of_heap hG10.g0]; rfl); have kw103 : w10.cell? ⟨w.heap.size, 3, none⟩ = some (.slice P3 q3 g3) := (by rw [Lib.cell_of_heap hG10.g0]; rfl); have lw100 : w10.cell? ⟨w.heap.size + 1, 0, none⟩ = some (.slice P4 q4 g4) := (by rw [Lib.cell_of_heap hG10.g1]; rfl); have lw101 : w10.cell? ⟨w.heap.size + 1, 1, none⟩ = some (.slice P5 q5 g5) := (by rw [Lib.cell_of_heap hG10.g1]; rfl); dsimp only)
      | (go_at_call 9; refine (HT9.out _ (by first | exact (Below.refl _ _).drew | exact ((Below.refl W.heap.size W).alloc (Nat.le_refl _) _).drew)).mono ?_; rintro e w9 ⟨v1, v2, C3, m3, e3, C4, m4, e4, rfl, r1, r2, r3, r4, b9⟩; have hB9 : Below W.heap.size W w9 := (by first | exact ((Below.refl W.heap.size W).drew).trans b9 | exact (((Below.refl W.heap.size W).alloc (Nat.le_refl _) _).drew).trans (b9.mono (by simp))); have hG9 := hG.step hB9; have new9a : w.heap.size ≠ w9.heap.size := (by have h1 := hB9.size; have h2 := HWL.out; omega); have new9b : w9.heap.size ≠ w.heap.size := (by have h1 := hB9.size; have h2 := HWL.out; omega); have new9c : w.heap.size + 1 ≠ w9.heap.size := (by have h1 := hB9.size; have h2 := HWL.out; omega); have new9d : w9.heap.size ≠ w.heap.size + 1 := (by have h1 := hB9.size; have h2 := HWL.out; omega); (first | (have kw9x : w9.heap[W.heap.size]? = some _ := (b9.block W.heap.size (by simp)).trans (show ((W.alloc (.cells #[.slice none 0 0, .slice none 0 0, .slice none 0 0, .slice none 0 0, .slice none 0 0, .slice none 0 0, .slice none 0 0, .slice none 0 0, .slice none 0 0, .slice none 0 0] 36)).drew).heap[W.heap.size]? = some _ from heap_alloc_new W (.cells #[.slice none 0 0, .slice none 0 0, .slice none 0 0, .slice none 0 0, .slice none 0 0, .slice none 0 0, .slice none 0 0, .slice none 0 0, .slice none 0 0, .slice none 0 0] 36))) | skip); have kw90 : w9.cell? ⟨w.heap.size, 0, none⟩ = some (.slice P0 q0 g0) := (by rw [Lib.cell_of_heap hG9.g0]; rfl); have kw91 : w9.cell? ⟨w.heap.size, 1, none⟩ = some (.slice P1 q1 g1) := (by rw [Lib.cell_of_heap hG9.g0]; rfl); have kw92 : w9.cell? ⟨w.heap.size, 2, none⟩ = some (.slice P2 q2 g2) := (by rw [Lib.cell_of_heap hG9.g0]; rfl); have kw93 : w9.cell? ⟨w.heap.size, 3, none⟩ = some (.slice P3 q3 g3) := (by rw [Lib.cell_of_heap hG9.g0]; rfl); have lw90 : w9.cell? ⟨w.heap.size + 1, 0, none⟩ = some (.slice P4 q4 g4) := (by rw [Lib.cell_of_heap hG9.g1]; rfl); have lw91 : w9.cell? ⟨w.heap.size + 1, 1, none⟩ = some (.slice P5 q5 g5) := (by rw [Lib.cell_of_heap hG9.g1]; rfl); dsimp only))
    all_goals go_wp2_with fail
    all_goals go_meet
    all_goals rw [← e0, ← e1, ← e2, ← e3', ← e4', ← e5, ← e6, ← e7, ← e8, ← e9]
    · exact ⟨w8.heap.size, rfl, OutAt.made (ow_out how) hB8⟩
    · exact ⟨w11.heap.size, rfl, OutAt.put how hB8 hB11.size (by simp) kw8x⟩
    · exact ⟨w10.heap.size, rfl, OutAt.put how hB8 hB10.size (lt_of_block kw11x) kw8x⟩
    · exact ⟨w9.heap.size, rfl, OutAt.put how hB8 hB9.size (lt_of_block kw11x) kw8x⟩
    · exact ⟨W.heap.size, rfl, OutAt.put how hB8 (Nat.le_refl _) (lt_of_block kw11x) kw8x⟩
  case rest =>
    obtain ⟨X, rfl, v, hO, hov, hXW, hbc⟩ := hcut
    have HC1 := Lib.hid (HT1.out wc hbc)
    obtain ⟨⟨X0, x0, e0⟩, ⟨X1, x1, e1⟩, ⟨X2, x2, e2⟩, ⟨X3, x3, e3⟩, ⟨X4, x4, e4⟩, ⟨X5, x5, e5⟩, ⟨X6, x6, e6⟩, ⟨X7, x7, e7⟩, ⟨X8, x8, e8⟩, ⟨X9, x9, e9⟩⟩ := hov.shapes
    rw [e0, e1, e2, e3, e4, e5, e6, e7, e8, e9] at hO
    have hlb := hov.lb
    rw [e1] at hlb
    have hhd := hov.hd
    rw [e2] at hhd
    have hci := hov.ci
    rw [e3] at hci
    have hbb := hov.bb
    rw [e4] at hbb
    have hix := hov.ix
    rw [e8] at hix
    have HOX := Lib.hid hO
    have HBC := Lib.hid hbc
    have HR := Lib.hid (And.intro hlb (And.intro hhd (And.intro hci (And.intro hbb hix))))
    clear hO hov hXW hbc e0 e1 e2 e3 e4 e5 e6 e7 e8 e9 hlb hhd hci hbb hix HT8 HT9 HT10 HT11 HT1 HGG
    go_wp2_with fail
    refine HC1.out.mono ?_
    rintro e w9 ⟨v', rfl, how, b9⟩
    have hov := ow_out how
    obtain ⟨⟨Y0, y0, e0⟩, ⟨Y1, y1, e1⟩, ⟨Y2, y2, e2⟩, ⟨Y3, y3, e3⟩, ⟨Y4, y4, e4⟩, ⟨Y5, y5, e5⟩, ⟨Y6, y6, e6⟩, ⟨Y7, y7, e7⟩, ⟨Y8, y8, e8⟩, ⟨Y9, y9, e9⟩⟩ := hov.shapes
    rw [← HAL.out.lb] at e1
    rw [← HAL.out.hd] at e2
    rw [← HAL.out.ci] at e3
    rw [← HAL.out.bb] at e4
    rw [← HAL.out.ix] at e8
    rw [← HAL.out.la] at e5
    rw [← HAL.out.ha] at e6
    rw [e0, e1, e2, e3, e4, e5, e6, e7, e8, e9]
    obtain ⟨V, hV⟩ : ∃ V, V = w9.alloc (.cells #[.slice Y0 s2.blocks.length y0, .slice Y1 s1.labels.length y1, .slice Y2 s1.heads.length y2, .slice Y3 s1.cites.length y3, .slice Y4 s1.bibs.length y4, .slice Y5 s1.la.length y5, .slice Y6 s1.ha.length y6, .slice Y7 s2.ia.length y7, .slice Y8 s1.index.length y8, .slice Y9 s2.notes.length y9] 36) := ⟨_, rfl⟩
    have hY : V.heap[w9.heap.size]? = some (.cells #[.slice Y0 s2.blocks.length y0, .slice Y1 s1.labels.length y1, .slice Y2 s1.heads.length y2, .slice Y3 s1.cites.length y3, .slice Y4 s1.bibs.length y4, .slice Y5 s1.la.length y5, .slice Y6 s1.ha.length y6, .slice Y7 s2.ia.length y7, .slice Y8 s1.index.length y8, .slice Y9 s2.notes.length y9] 36 (0, 0)) := by rw [hV]; exact heap_alloc_new w9 _
    have bV : Below w9.heap.size w9 V := by rw [hV]; exact (Below.refl _ _).alloc (Nat.le_refl _) _
    have bcV := below_via b9 bV
    have hX := (bcV.block X (lt_of_block HOX.out)).trans HOX.out
    have hlb := hov.lb.step bV
    rw [e1, ← HAL.out.lb] at hlb
    have hhd := hov.hd.step bV
    rw [e2, ← HAL.out.hd] at hhd
    have hci := hov.ci.step bV
    rw [e3, ← HAL.out.ci] at hci
    have hbb := hov.bb.step bV
    rw [e4, ← HAL.out.bb] at hbb
    have hix := hov.ix.step bV
    rw [e8, ← HAL.out.ix] at hix
    obtain ⟨xlb, xhd, xci, xbb, xix⟩ := HR.out
    replace xlb := xlb.step bcV
    replace xhd := xhd.step bcV
    replace xci := xci.step bcV
    replace xbb := xbb.step bcV
    replace xix := xix.step bcV
    have hn := HBD1.out
    have n1 : s1.labels.length < 1000000 := by have := hn.lb; omega
    have n2 : s1.heads.length < 1000000 := by have := hn.hd; omega
    have n3 : s1.cites.length < 1000000 := by have := hn.ci; omega
    have n4 : s1.bibs.length < 1000000 := by have := hn.bb; omega
    have n5 : s1.index.length < 1000000 := by have := hn.ix; omega
    have HGV := Lib.hid (fun wx (hb : Below V.heap.size V wx) => HGW.out wx (below_via HBC.out (below_via bcV hb)))
    have hrx : ∀ wx, Below V.heap.size V wx → Calls Tryd.prog 13 #[.agg #[.slice X1 s1.labels.length x1, .slice X2 s1.heads.length x2, .slice X3 s1.cites.length x3, .slice X4 s1.bibs.length x4]] wx fun e w' => ∃ u1 u2, e = .returned (.agg #[u1, u2, .slice X3 s1.cites.length x3, .slice X4 s1.bibs.length x4]) ∧ RowC 3 labF w' w'.heap.size u1 s1.labels ∧ RowC 4 hdF w' w'.heap.size u2 s1.heads ∧ Below wx.heap.size wx w' := fun wx hb =>
      (ref_any (.slice X1 s1.labels.length x1) (.slice X2 s1.heads.length x2) (.slice X3 s1.cites.length x3) (.slice X4 s1.bibs.length x4) s1.labels s1.heads (xlb.step hb) (xhd.step hb) n1 n2 ⟨_, _, _, rfl⟩ ⟨_, _, _, rfl⟩).mono fun e w' ⟨u1, u2, he, o1, o2, hbb⟩ => ⟨u1, u2, he, o1.rowC labF_len, o2.rowC hdF_len, hbb⟩
    have hry : ∀ wx, Below V.heap.size V wx → Calls Tryd.prog 13 #[.agg #[.slice Y1 s1.labels.length y1, .slice Y2 s1.heads.length y2, .slice Y3 s1.cites.length y3, .slice Y4 s1.bibs.length y4]] wx fun e w' => ∃ u1 u2, e = .returned (.agg #[u1, u2, .slice Y3 s1.cites.length y3, .slice Y4 s1.bibs.length y4]) ∧ RowC 3 labF w' w'.heap.size u1 s1.labels ∧ RowC 4 hdF w' w'.heap.size u2 s1.heads ∧ Below wx.heap.size wx w' := fun wx hb =>
      (ref_any (.slice Y1 s1.labels.length y1) (.slice Y2 s1.heads.length y2) (.slice Y3 s1.cites.length y3) (.slice Y4 s1.bibs.length y4) s1.labels s1.heads (hlb.step hb) (hhd.step hb) n1 n2 ⟨_, _, _, rfl⟩ ⟨_, _, _, rfl⟩).mono fun e w' ⟨u1, u2, he, o1, o2, hbb⟩ => ⟨u1, u2, he, o1.rowC labF_len, o2.rowC hdF_len, hbb⟩
    have hsm : ∀ wx u1 u2 z1 z2, Below V.heap.size V wx → RowC 3 labF wx wx.heap.size u1 s1.labels → RowC 4 hdF wx wx.heap.size u2 s1.heads → RowC 3 labF wx wx.heap.size z1 s1.labels → RowC 4 hdF wx wx.heap.size z2 s1.heads → Calls Tryd.prog 12 #[.agg #[u1, u2, .slice X3 s1.cites.length x3, .slice X4 s1.bibs.length x4], .agg #[z1, z2, .slice Y3 s1.cites.length y3, .slice Y4 s1.bibs.length y4]] wx fun e w' => e = .returned (.bool true) ∧ Below wx.heap.size wx w' := fun wx u1 u2 z1 z2 hb r1 r2 r3 r4 =>
      same_any u1 u2 (.slice X3 s1.cites.length x3) (.slice X4 s1.bibs.length x4) z1 z2 (.slice Y3 s1.cites.length y3) (.slice Y4 s1.bibs.length y4) s1.labels s1.heads s1.cites s1.bibs r1 r2 (xci.step hb) (xbb.step hb) r3 r4 (hci.step hb) (hbb.step hb) n1 n2 n3 n4
    have hwd : ∀ wx, Below V.heap.size V wx → Calls Tryd.prog 14 #[.slice X8 s1.index.length x8, .slice Y8 s1.index.length y8] wx fun e w' => e = .returned (.bool true) ∧ Below wx.heap.size wx w' := fun wx hb =>
      (words2_any (.slice X8 s1.index.length x8) (.slice Y8 s1.index.length y8) s1.index s1.index wx (rows_bs (xix.step hb)) (rows_bs (hix.step hb)) n5 n5).mono fun e w' ⟨he, n, hw⟩ => ⟨by rw [he]; simp, by rw [hw]; exact below_of_drewN n⟩
    have hfx : ∀ wx, Below V.heap.size V wx → Calls Tryd.prog 15 #[] wx fun e w' => e = .returned (.bool true) ∧ Below wx.heap.size wx w' := fun wx hb => fixed_any wx (fun wy hb2 => HGV.out wy (below_via hb hb2))
    have HRX := Lib.hid hrx
    have HRY := Lib.hid hry
    have HSM := Lib.hid hsm
    have HWD := Lib.hid hwd
    have HFX := Lib.hid hfx
    obtain ⟨Y, hYe⟩ : ∃ Y, Y = w9.heap.size := ⟨_, rfl⟩
    rw [← hYe] at hY
    have HXV := Lib.hid (lt_of_block hX)
    have HYV := Lib.hid (lt_of_block hY)
    have HBEND := Lib.hid (HG0B.out.trans ((below_via HBC.out bcV).mono HG0B.out.size))
    have QX1 := Lib.hid (show V.cell? ⟨X, 1, none⟩ = some (.slice X1 s1.labels.length x1) by rw [Lib.cell_of_heap hX]; rfl)
    have QX2 := Lib.hid (show V.cell? ⟨X, 2, none⟩ = some (.slice X2 s1.heads.length x2) by rw [Lib.cell_of_heap hX]; rfl)
    have QX3 := Lib.hid (show V.cell? ⟨X, 3, none⟩ = some (.slice X3 s1.cites.length x3) by rw [Lib.cell_of_heap hX]; rfl)
    have QX4 := Lib.hid (show V.cell? ⟨X, 4, none⟩ = some (.slice X4 s1.bibs.length x4) by rw [Lib.cell_of_heap hX]; rfl)
    have QX5 := Lib.hid (show V.cell? ⟨X, 5, none⟩ = some (.slice X5 s1.la.length x5) by rw [Lib.cell_of_heap hX]; rfl)
    have QX6 := Lib.hid (show V.cell? ⟨X, 6, none⟩ = some (.slice X6 s1.ha.length x6) by rw [Lib.cell_of_heap hX]; rfl)
    have QX8 := Lib.hid (show V.cell? ⟨X, 8, none⟩ = some (.slice X8 s1.index.length x8) by rw [Lib.cell_of_heap hX]; rfl)
    have QY1 := Lib.hid (show V.cell? ⟨Y, 1, none⟩ = some (.slice Y1 s1.labels.length y1) by rw [Lib.cell_of_heap hY]; rfl)
    have QY2 := Lib.hid (show V.cell? ⟨Y, 2, none⟩ = some (.slice Y2 s1.heads.length y2) by rw [Lib.cell_of_heap hY]; rfl)
    have QY3 := Lib.hid (show V.cell? ⟨Y, 3, none⟩ = some (.slice Y3 s1.cites.length y3) by rw [Lib.cell_of_heap hY]; rfl)
    have QY4 := Lib.hid (show V.cell? ⟨Y, 4, none⟩ = some (.slice Y4 s1.bibs.length y4) by rw [Lib.cell_of_heap hY]; rfl)
    have QY5 := Lib.hid (show V.cell? ⟨Y, 5, none⟩ = some (.slice Y5 s1.la.length y5) by rw [Lib.cell_of_heap hY]; rfl)
    have QY6 := Lib.hid (show V.cell? ⟨Y, 6, none⟩ = some (.slice Y6 s1.ha.length y6) by rw [Lib.cell_of_heap hY]; rfl)
    have QY8 := Lib.hid (show V.cell? ⟨Y, 8, none⟩ = some (.slice Y8 s1.index.length y8) by rw [Lib.cell_of_heap hY]; rfl)
    have HV := Lib.hid hV
    have HYE := Lib.hid hYe
    clear hov hY hX bV bcV b9 how hlb hhd hci hbb hix xlb xhd xci xbb xix hn n1 n2 n3 n4 n5 hrx hry hsm hwd hfx hV hYe HC1 e0 e1 e2 e3 e4 e5 e6 e7 e8 e9
    go_upto_region 4 with fail
    rw [← HV.out, ← HYE.out]
    clear HV HYE
    have p1 := QX1.out
    have p2 := QX2.out
    have p3 := QX3.out
    have p4 := QX4.out
    have p5 := QX5.out
    have p6 := QX6.out
    have p8 := QX8.out
    have q1' := QY1.out
    have q2' := QY2.out
    have q3' := QY3.out
    have q4' := QY4.out
    have q5' := QY5.out
    have q6' := QY6.out
    have q8' := QY8.out
    go_region_held3 (fun wx : World => wx.cell? ⟨X, 1, none⟩ = some (.slice X1 s1.labels.length x1) ∧ wx.cell? ⟨X, 2, none⟩ = some (.slice X2 s1.heads.length x2) ∧ wx.cell? ⟨X, 3, none⟩ = some (.slice X3 s1.cites.length x3) ∧ wx.cell? ⟨X, 4, none⟩ = some (.slice X4 s1.bibs.length x4) ∧ wx.cell? ⟨X, 5, none⟩ = some (.slice X5 s1.la.length x5) ∧ wx.cell? ⟨X, 6, none⟩ = some (.slice X6 s1.ha.length x6) ∧ wx.cell? ⟨X, 8, none⟩ = some (.slice X8 s1.index.length x8) ∧ wx.cell? ⟨Y, 1, none⟩ = some (.slice Y1 s1.labels.length y1) ∧ wx.cell? ⟨Y, 2, none⟩ = some (.slice Y2 s1.heads.length y2) ∧ wx.cell? ⟨Y, 3, none⟩ = some (.slice Y3 s1.cites.length y3) ∧ wx.cell? ⟨Y, 4, none⟩ = some (.slice Y4 s1.bibs.length y4) ∧ wx.cell? ⟨Y, 5, none⟩ = some (.slice Y5 s1.la.length y5) ∧ wx.cell? ⟨Y, 6, none⟩ = some (.slice Y6 s1.ha.length y6) ∧ wx.cell? ⟨Y, 8, none⟩ = some (.slice Y8 s1.index.length y8)) (go_keep) (first
      | (have hDx := hD; go_at_call 15; refine (HFX.out _ hD).mono ?_; rintro e wE ⟨rfl, bE⟩; have hE := below_via hD bE; have pwE1 : wE.cell? ⟨X, 1, none⟩ = some (.slice X1 s1.labels.length x1) := below_cell hE HXV.out QX1.out; have pwE2 : wE.cell? ⟨X, 2, none⟩ = some (.slice X2 s1.heads.length x2) := below_cell hE HXV.out QX2.out; have pwE3 : wE.cell? ⟨X, 3, none⟩ = some (.slice X3 s1.cites.length x3) := below_cell hE HXV.out QX3.out; have pwE4 : wE.cell? ⟨X, 4, none⟩ = some (.slice X4 s1.bibs.length x4) := below_cell hE HXV.out QX4.out; have pwE5 : wE.cell? ⟨X, 5, none⟩ = some (.slice X5 s1.la.length x5) := below_cell hE HXV.out QX5.out; have pwE6 : wE.cell? ⟨X, 6, none⟩ = some (.slice X6 s1.ha.length x6) := below_cell hE HXV.out QX6.out; have pwE8 : wE.cell? ⟨X, 8, none⟩ = some (.slice X8 s1.index.length x8) := below_cell hE HXV.out QX8.out; have qwE1 : wE.cell? ⟨Y, 1, none⟩ = some (.slice Y1 s1.labels.length y1) := below_cell hE HYV.out QY1.out; have qwE2 : wE.cell? ⟨Y, 2, none⟩ = some (.slice Y2 s1.heads.length y2) := below_cell hE HYV.out QY2.out; have qwE3 : wE.cell? ⟨Y, 3, none⟩ = some (.slice Y3 s1.cites.length y3) := below_cell hE HYV.out QY3.out; have qwE4 : wE.cell? ⟨Y, 4, none⟩ = some (.slice Y4 s1.bibs.length y4) := below_cell hE HYV.out QY4.out; have qwE5 : wE.cell? ⟨Y, 5, none⟩ = some (.slice Y5 s1.la.length y5) := below_cell hE HYV.out QY5.out; have qwE6 : wE.cell? ⟨Y, 6, none⟩ = some (.slice Y6 s1.ha.length y6) := below_cell hE HYV.out QY6.out; have qwE8 : wE.cell? ⟨Y, 8, none⟩ = some (.slice Y8 s1.index.length y8) := below_cell hE HYV.out QY8.out; dsimp only)
      | (have hCx := hC; go_at_call 14; refine (HWD.out _ hC).mono ?_; rintro e wD ⟨rfl, bD⟩; have hD := below_via hC bD; have pwD1 : wD.cell? ⟨X, 1, none⟩ = some (.slice X1 s1.labels.length x1) := below_cell hD HXV.out QX1.out; have pwD2 : wD.cell? ⟨X, 2, none⟩ = some (.slice X2 s1.heads.length x2) := below_cell hD HXV.out QX2.out; have pwD3 : wD.cell? ⟨X, 3, none⟩ = some (.slice X3 s1.cites.length x3) := below_cell hD HXV.out QX3.out; have pwD4 : wD.cell? ⟨X, 4, none⟩ = some (.slice X4 s1.bibs.length x4) := below_cell hD HXV.out QX4.out; have pwD5 : wD.cell? ⟨X, 5, none⟩ = some (.slice X5 s1.la.length x5) := below_cell hD HXV.out QX5.out; have pwD6 : wD.cell? ⟨X, 6, none⟩ = some (.slice X6 s1.ha.length x6) := below_cell hD HXV.out QX6.out; have pwD8 : wD.cell? ⟨X, 8, none⟩ = some (.slice X8 s1.index.length x8) := below_cell hD HXV.out QX8.out; have qwD1 : wD.cell? ⟨Y, 1, none⟩ = some (.slice Y1 s1.labels.length y1) := below_cell hD HYV.out QY1.out; have qwD2 : wD.cell? ⟨Y, 2, none⟩ = some (.slice Y2 s1.heads.length y2) := below_cell hD HYV.out QY2.out; have qwD3 : wD.cell? ⟨Y, 3, none⟩ = some (.slice Y3 s1.cites.length y3) := below_cell hD HYV.out QY3.out; have qwD4 : wD.cell? ⟨Y, 4, none⟩ = some (.slice Y4 s1.bibs.length y4) := below_cell hD HYV.out QY4.out; have qwD5 : wD.cell? ⟨Y, 5, none⟩ = some (.slice Y5 s1.la.length y5) := below_cell hD HYV.out QY5.out; have qwD6 : wD.cell? ⟨Y, 6, none⟩ = some (.slice Y6 s1.ha.length y6) := below_cell hD HYV.out QY6.out; have qwD8 : wD.cell? ⟨Y, 8, none⟩ = some (.slice Y8 s1.index.length y8) := below_cell hD HYV.out QY8.out; dsimp only)
      | (have hBx := hB; go_at_call 12; refine (HSM.out _ _ _ _ _ hB ra1' ra2' rb1 rb2).mono ?_; rintro e wC ⟨rfl, bC⟩; have hC := below_via hB bC; have pwC1 : wC.cell? ⟨X, 1, none⟩ = some (.slice X1 s1.labels.length x1) := below_cell hC HXV.out QX1.out; have pwC2 : wC.cell? ⟨X, 2, none⟩ = some (.slice X2 s1.heads.length x2) := below_cell hC HXV.out QX2.out; have pwC3 : wC.cell? ⟨X, 3, none⟩ = some (.slice X3 s1.cites.length x3) := below_cell hC HXV.out QX3.out; have pwC4 : wC.cell? ⟨X, 4, none⟩ = some (.slice X4 s1.bibs.length x4) := below_cell hC HXV.out QX4.out; have pwC5 : wC.cell? ⟨X, 5, none⟩ = some (.slice X5 s1.la.length x5) := below_cell hC HXV.out QX5.out; have pwC6 : wC.cell? ⟨X, 6, none⟩ = some (.slice X6 s1.ha.length x6) := below_cell hC HXV.out QX6.out; have pwC8 : wC.cell? ⟨X, 8, none⟩ = some (.slice X8 s1.index.length x8) := below_cell hC HXV.out QX8.out; have qwC1 : wC.cell? ⟨Y, 1, none⟩ = some (.slice Y1 s1.labels.length y1) := below_cell hC HYV.out QY1.out; have qwC2 : wC.cell? ⟨Y, 2, none⟩ = some (.slice Y2 s1.heads.length y2) := below_cell hC HYV.out QY2.out; have qwC3 : wC.cell? ⟨Y, 3, none⟩ = some (.slice Y3 s1.cites.length y3) := below_cell hC HYV.out QY3.out; have qwC4 : wC.cell? ⟨Y, 4, none⟩ = some (.slice Y4 s1.bibs.length y4) := below_cell hC HYV.out QY4.out; have qwC5 : wC.cell? ⟨Y, 5, none⟩ = some (.slice Y5 s1.la.length y5) := below_cell hC HYV.out QY5.out; have qwC6 : wC.cell? ⟨Y, 6, none⟩ = some (.slice Y6 s1.ha.length y6) := below_cell hC HYV.out QY6.out; have qwC8 : wC.cell? ⟨Y, 8, none⟩ = some (.slice Y8 s1.index.length y8) := below_cell hC HYV.out QY8.out; dsimp only)
      | (have hAx := hA; go_at_call 13; refine (HRY.out _ hA).mono ?_; rintro e wB ⟨z1, z2, rfl, rb1, rb2, bB⟩; have hB := below_via hA bB; have ra1' := ra1.step bB; have ra2' := ra2.step bB; have pwB1 : wB.cell? ⟨X, 1, none⟩ = some (.slice X1 s1.labels.length x1) := below_cell hB HXV.out QX1.out; have pwB2 : wB.cell? ⟨X, 2, none⟩ = some (.slice X2 s1.heads.length x2) := below_cell hB HXV.out QX2.out; have pwB3 : wB.cell? ⟨X, 3, none⟩ = some (.slice X3 s1.cites.length x3) := below_cell hB HXV.out QX3.out; have pwB4 : wB.cell? ⟨X, 4, none⟩ = some (.slice X4 s1.bibs.length x4) := below_cell hB HXV.out QX4.out; have pwB5 : wB.cell? ⟨X, 5, none⟩ = some (.slice X5 s1.la.length x5) := below_cell hB HXV.out QX5.out; have pwB6 : wB.cell? ⟨X, 6, none⟩ = some (.slice X6 s1.ha.length x6) := below_cell hB HXV.out QX6.out; have pwB8 : wB.cell? ⟨X, 8, none⟩ = some (.slice X8 s1.index.length x8) := below_cell hB HXV.out QX8.out; have qwB1 : wB.cell? ⟨Y, 1, none⟩ = some (.slice Y1 s1.labels.length y1) := below_cell hB HYV.out QY1.out; have qwB2 : wB.cell? ⟨Y, 2, none⟩ = some (.slice Y2 s1.heads.length y2) := below_cell hB HYV.out QY2.out; have qwB3 : wB.cell? ⟨Y, 3, none⟩ = some (.slice Y3 s1.cites.length y3) := below_cell hB HYV.out QY3.out; have qwB4 : wB.cell? ⟨Y, 4, none⟩ = some (.slice Y4 s1.bibs.length y4) := below_cell hB HYV.out QY4.out; have qwB5 : wB.cell? ⟨Y, 5, none⟩ = some (.slice Y5 s1.la.length y5) := below_cell hB HYV.out QY5.out; have qwB6 : wB.cell? ⟨Y, 6, none⟩ = some (.slice Y6 s1.ha.length y6) := below_cell hB HYV.out QY6.out; have qwB8 : wB.cell? ⟨Y, 8, none⟩ = some (.slice Y8 s1.index.length y8) := below_cell hB HYV.out QY8.out; dsimp only)
      | (go_at_call 13; refine (HRX.out _ (Below.refl _ _).drew).mono ?_; rintro e wA ⟨u1, u2, rfl, ra1, ra2, bA⟩; have hA : Below V.heap.size V wA := ((Below.refl V.heap.size V).drew).trans bA; have pwA1 : wA.cell? ⟨X, 1, none⟩ = some (.slice X1 s1.labels.length x1) := below_cell hA HXV.out QX1.out; have pwA2 : wA.cell? ⟨X, 2, none⟩ = some (.slice X2 s1.heads.length x2) := below_cell hA HXV.out QX2.out; have pwA3 : wA.cell? ⟨X, 3, none⟩ = some (.slice X3 s1.cites.length x3) := below_cell hA HXV.out QX3.out; have pwA4 : wA.cell? ⟨X, 4, none⟩ = some (.slice X4 s1.bibs.length x4) := below_cell hA HXV.out QX4.out; have pwA5 : wA.cell? ⟨X, 5, none⟩ = some (.slice X5 s1.la.length x5) := below_cell hA HXV.out QX5.out; have pwA6 : wA.cell? ⟨X, 6, none⟩ = some (.slice X6 s1.ha.length x6) := below_cell hA HXV.out QX6.out; have pwA8 : wA.cell? ⟨X, 8, none⟩ = some (.slice X8 s1.index.length x8) := below_cell hA HXV.out QX8.out; have qwA1 : wA.cell? ⟨Y, 1, none⟩ = some (.slice Y1 s1.labels.length y1) := below_cell hA HYV.out QY1.out; have qwA2 : wA.cell? ⟨Y, 2, none⟩ = some (.slice Y2 s1.heads.length y2) := below_cell hA HYV.out QY2.out; have qwA3 : wA.cell? ⟨Y, 3, none⟩ = some (.slice Y3 s1.cites.length y3) := below_cell hA HYV.out QY3.out; have qwA4 : wA.cell? ⟨Y, 4, none⟩ = some (.slice Y4 s1.bibs.length y4) := below_cell hA HYV.out QY4.out; have qwA5 : wA.cell? ⟨Y, 5, none⟩ = some (.slice Y5 s1.la.length y5) := below_cell hA HYV.out QY5.out; have qwA6 : wA.cell? ⟨Y, 6, none⟩ = some (.slice Y6 s1.ha.length y6) := below_cell hA HYV.out QY6.out; have qwA8 : wA.cell? ⟨Y, 8, none⟩ = some (.slice Y8 s1.index.length y8) := below_cell hA HYV.out QY8.out; dsimp only))
    all_goals go_wp2_with fail
    all_goals go_ret
    all_goals exact ⟨rfl, HBEND.out.trans (hE.mono HBEND.out.size)⟩
end Go.Proofs.YtjmmfihmamcopaaDoor
