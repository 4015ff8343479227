/- wire.Files, the reference's Files. -/
import Derived.Test.YtmgfbmkfgbildaaDoorWrP
import Derived.Test.YtmgfbmkfgbildaaDoorWrB
import Derived.Deep.DrawnRows
namespace Go.Proofs.YtmgfbmkfgbildaaDoor
open Go.RowKit Tx

theorem files_take (l : List Wr.F) (k : Nat) (h : k < l.length) : Wr.files (l.take (k + 1)) = Wr.files (l.take k) ++ (Wr.put l[k].1 ++ Wr.put l[k].2) := by
  rw [List.take_succ_eq_append_getElem h, Wr.files_snoc]
theorem files_le (l : List Wr.F) (k : Nat) : (Wr.files (l.take k)).length ≤ (Wr.files l).length := by
  have : Wr.files l = Wr.files (l.take k) ++ Wr.files (l.drop k) := by
    unfold Wr.files
    rw [← List.flatten_append, ← List.map_append, List.take_append_drop]
  rw [this]
  simp
/-- Two cells, in each world behind one. -/
abbrev S2 (w : World) (a0 a1 : Addr) (x y : Bs) (wx : World) : Prop := wx.cell? a0 = some (.string (bs x)) ∧ wx.cell? a1 = some (.string (bs y)) ∧ Below w.heap.size w wx
theorem S2.bel {p q r : Prop} (x : p ∧ q ∧ r) : r := x.2.2
theorem S2.of {w : World} {a0 a1 : Addr} {x y : Bs} (h0 : w.cell? a0 = some (.string (bs x))) (h1 : w.cell? a1 = some (.string (bs y))) (wx : World) (hb : Below w.heap.size w wx) : S2 w a0 a1 x y wx :=
  ⟨(hb.cell (World.block_lt_of_cell? _ _ (by rw [h0]))).trans h0, (hb.cell (World.block_lt_of_cell? _ _ (by rw [h1]))).trans h1, hb⟩

attribute [local go_sem ↓] Go.wp_at_zero Go.wp_at_succ
set_option maxRecDepth 100000 in
set_option maxHeartbeats 4000000 in
theorem rFiles_any (v : Value) (l : List Wr.F) (w : World) (hr : RowC 2 ff w w.heap.size v l) (hl : (Wr.files l).length ≤ 10000000) :
    Calls Tryd.prog 22 #[v] w fun e w' => e = .returned (vs (Wr.files l)) ∧ Below w.heap.size w w' := by
  obtain ⟨A, cap, rfl, h1, h2, h3⟩ := hr.shape
  have HC := Lib.hid h3
  clear h3 hr
  go_enter Tryd.func22, Tryd.ntmps22
  go_wp2_with fail
  go_loopw [3, 4] (fun s i wr => ∃ k : Nat, k ≤ l.length ∧ i = .int .i64 k ∧ s = .string (bs (Wr.files (l.take k))) ∧ Below w.heap.size w wr) (fun _ i _ => l.length - (RowKit.intOf i).toNat)
  case atStart => exact ⟨0, Nat.zero_le _, rfl, rfl, Below.refl _ _⟩
  case round =>
    obtain ⟨k, hk, rfl, rfl, hbel⟩ := hrel
    have hle := hbel.size
    by_cases hlt : k < l.length
    · have hi : (k : Int) < (l.length : Int) := by omega
      have hi0 : (0 : Int) ≤ (k : Int) := by omega
      obtain ⟨b, off, rfl, hbl, hc⟩ := HC.out (by rintro rfl; simp at hlt)
      obtain ⟨c0, c1⟩ := ff_cells (fun i u hu => (hbel.cell (p := ⟨b, off + k * 2 + i, none⟩) hbl).trans (hc k hlt i u hu))
      have hle1 := files_le l (k + 1)
      have hft := files_take l k hlt
      rw [hft] at hle1
      have HF := Lib.hid hft
      clear hft hc
      generalize l[k] = f at *
      obtain ⟨x, y⟩ := f
      simp only at c0 c1 HF hle1
      have HS := Lib.hid (S2.of c0 c1)
      have hpx : x.length ≤ (Wr.put x).length := by simp [Wr.put]; omega
      have hpy : y.length ≤ (Wr.put y).length := by simp [Wr.put]; omega
      have HX := Lib.hid (fun wx => rPut_any x wx)
      have HY := Lib.hid (fun wx => rPut_any y wx)
      generalize Wr.put x = px at *
      generalize Wr.put y = py at *
      obtain ⟨acc, hacc⟩ : ∃ acc, acc = Wr.files (l.take k) := ⟨_, rfl⟩
      rw [← hacc] at hle1 ⊢
      have HAC := Lib.hid hacc
      clear hacc
      obtain ⟨T1, hT1⟩ : ∃ T, T = px ++ py := ⟨_, rfl⟩
      obtain ⟨T2, hT2⟩ : ∃ T, T = acc ++ T1 := ⟨_, rfl⟩
      simp only [List.length_append] at hle1
      have o1 : bs px ++ bs py = bs T1 := by rw [hT1, bs_append]
      have o2 : bs acc ++ bs T1 = bs T2 := by rw [hT2, bs_append]
      have p1 : ¬ (9223372036854775807 < (bs px).size + (bs py).size) := by rw [bs_size, bs_size]; omega
      have p2 : ¬ (9223372036854775807 < (bs acc).size + (bs T1).size) := by rw [bs_size, bs_size, hT1]; simp only [List.length_append]; omega
      have HW : Hid (Wr.files (l.take (k + 1)) = T2) := Lib.hid (by rw [HF.out, ← HAC.out, hT2, hT1])
      have hx1 : x.length ≤ 1000000000 := by omega
      have hy1 : y.length ≤ 1000000000 := by omega
      clear hT1 hT2 hle1 hpx hpy c0 c1
      obtain ⟨wq, hwq⟩ : ∃ wq, wq = wr := ⟨_, rfl⟩
      go_upto_region 5 with fail
      go_region_held3 (fun wx => wx.cell? ⟨b, off + k * 2, none⟩ = some (.string (bs x)) ∧ wx.cell? ⟨b, off + k * 2 + 1, none⟩ = some (.string (bs y)) ∧ Below wr.heap.size wr wx) (first
          | (exact HS.out _ k1)
          | (exact HS.out _ (Below.refl _ _).drew)
          | (exact HS.out _ (Below.refl _ _))) (first
        | (go_at_call 16; have y9 := k1; (first | refine (HY.out _ hy1).mono ?_ | refine (HX.out _ hx1).mono ?_); rintro e x1 ⟨rfl, b1⟩
           have k1 : Below wr.heap.size wr x1 := below_via (S2.bel (by assumption)) b1
           clear b1; dsimp only)
        | (go_at_call 16; (first | refine (HX.out _ hx1).mono ?_ | refine (HY.out _ hy1).mono ?_); rintro e x1 ⟨rfl, b1⟩
           have k1 : Below wr.heap.size wr x1 := below_via (S2.bel (by assumption)) b1
           clear b1; dsimp only))
      all_goals (go_wp2_with fail)
      all_goals go_roundw
      all_goals first
        | (case rel => exact ⟨k + 1, by omega, by go_num, by rw [HW.out], below_via hbel k1⟩)
        | (case measure => simp [RowKit.intOf]; omega)
    · obtain rfl : k = l.length := by omega
      have HT : Hid (l.take l.length = l) := Lib.hid (List.take_length)
      go_wp2_with fail
      go_ret
      exact ⟨by rw [HT.out]; rfl, hbel⟩

theorem box_cells {w : World} {x y : Bs} : (w.alloc (.cells #[.string (bs x), .string (bs y)] 51)).cell? ⟨w.heap.size, 0, none⟩ = some (.string (bs x)) ∧ (w.alloc (.cells #[.string (bs x), .string (bs y)] 51)).cell? ⟨w.heap.size, 1, none⟩ = some (.string (bs y)) := by
  constructor
  · rw [cell_of_row _ w.heap.size 0 _ 51 (0, 0) (heap_alloc_new w _)]; rfl
  · rw [cell_of_row _ w.heap.size 1 _ 51 (0, 0) (heap_alloc_new w _)]; rfl
set_option maxRecDepth 100000 in
set_option maxHeartbeats 4000000 in
theorem wFiles_any (v : Value) (l : List Wr.F) (w : World) (hr : RowC 2 ff w w.heap.size v l) (hl : (Wr.files l).length ≤ 10000000) (hg : Gl w) :
    Calls Tryd.prog 21 #[v] w fun e w' => e = .returned (vs (Wr.files l)) ∧ Below w.heap.size w w' := by
  obtain ⟨A, cap, rfl, h1, h2, h3⟩ := hr.shape
  have HC := Lib.hid h3
  have HG := Lib.hid hg
  clear h3 hr hg
  obtain ⟨B, hB⟩ : ∃ B, B = w.heap.size := ⟨_, rfl⟩
  have hfresh : BAt B B (.slice none 0 0) [] (w.alloc (.cells #[.pointer none, .slice none 0 0] 57)) := hB ▸ BAt.fresh w
  have hb0 : Below B w (w.alloc (.cells #[.pointer none, .slice none 0 0] 57)) := hB ▸ (Below.refl _ _).alloc (Nat.le_refl _) _
  have HB := Lib.hid hB
  go_enter Tryd.func21, Tryd.ntmps21
  go_wp2_with fail
  rw [← hB]
  clear hB
  go_loopw [8] (fun i wr => ∃ (k : Nat) (v : Value), k ≤ l.length ∧ i = .int .i64 k ∧ BAt B B v (Lib.byteCells (Wr.files (l.take k))) wr ∧ Below B w wr) (fun i _ => l.length - (RowKit.intOf i).toNat)
  case atStart => exact ⟨0, _, Nat.zero_le _, rfl, hfresh, hb0⟩
  case round =>
    clear hfresh hb0
    obtain ⟨k, v, hk, rfl, hbu, hbel⟩ := hrel
    have hle := hbel.size
    by_cases hlt : k < l.length
    · have hi : (k : Int) < (l.length : Int) := by omega
      have hi0 : (0 : Int) ≤ (k : Int) := by omega
      obtain ⟨b, off, rfl, hbl, hc⟩ := HC.out (by rintro rfl; simp at hlt)
      obtain ⟨c0, c1⟩ := ff_cells (fun i u hu => (hbel.cell (p := ⟨b, off + k * 2 + i, none⟩) (by rw [HB.out]; exact hbl)).trans (hc k hlt i u hu))
      have hle1 := files_le l (k + 1)
      have hft := files_take l k hlt
      rw [hft] at hle1
      have HF := Lib.hid hft
      clear hft hc
      generalize l[k] = f at *
      obtain ⟨x, y⟩ := f
      simp only at c0 c1 HF hle1
      simp only [List.length_append] at hle1
      have hpx : x.length ≤ (Wr.put x).length := by simp [Wr.put]; omega
      have hpy : y.length ≤ (Wr.put y).length := by simp [Wr.put]; omega
      have hx1 : x.length ≤ 1000000000 := by omega
      have hy1 : y.length ≤ 1000000000 := by omega
      obtain ⟨wb, hwb⟩ : ∃ wb, wb = wr.alloc (.cells #[.string (bs x), .string (bs y)] 51) := ⟨_, rfl⟩
      obtain ⟨g, hgs⟩ : ∃ g, g = wr.heap.size := ⟨_, rfl⟩
      have d0 : wb.cell? ⟨g, 0, none⟩ = some (.string (bs x)) := by rw [hwb, hgs]; exact box_cells.1
      have d1 : wb.cell? ⟨g, 1, none⟩ = some (.string (bs y)) := by rw [hwb, hgs]; exact box_cells.2
      have hbw : Below wr.heap.size wr wb := by rw [hwb]; exact (Below.refl _ _).alloc (Nat.le_refl _) _
      have hgb : g < wb.heap.size := World.block_lt_of_cell? wb ⟨g, 0, none⟩ (by rw [d0])
      have hlts := hbu.lt
      have HBU := Lib.hid (hbu.below hbw)
      have HV := Lib.hid (show (B ≠ g) ∧ v.ownBlock ≠ some g from ⟨by omega, fun e => by have := hlts.2 g e; omega⟩)
      have HBW := Lib.hid (show Below B w wb from hbel.trans (hbw.mono (by rw [HB.out]; exact hle)))
      have hBwb : B ≤ wb.heap.size := by rw [HB.out]; exact HBW.out.size
      have HGB := Lib.hid (HG.out.below (HB.out ▸ HBW.out : Below w.heap.size w wb))
      have HS := Lib.hid (S2.of d0 d1)
      have HX := Lib.hid (fun wx hb => wPut_any x wx hx1 (HGB.out.below hb))
      have HY := Lib.hid (fun wx hb => wPut_any y wx hy1 (HGB.out.below hb))
      generalize Wr.put x = px at *
      generalize Wr.put y = py at *
      obtain ⟨acc, hacc⟩ : ∃ acc, acc = Wr.files (l.take k) := ⟨_, rfl⟩
      rw [← hacc] at hle1 HBU
      have HAC := Lib.hid hacc
      clear hacc
      obtain ⟨T1, hT1⟩ : ∃ T, T = px ++ py := ⟨_, rfl⟩
      have o1 : bs px ++ bs py = bs T1 := by rw [hT1, bs_append]
      have p1 : ¬ (9223372036854775807 < (bs px).size + (bs py).size) := by rw [bs_size, bs_size]; omega
      have hT1l : T1.length = px.length + py.length := by rw [hT1]; simp
      have HW : Hid (Lib.byteCells (Wr.files (l.take (k + 1))) = Lib.byteCells acc ++ Lib.strCells (bs T1)) := Lib.hid (by
        rw [HF.out, ← HAC.out, ← hT1, Lib.byteCells_append]; rfl)
      have hsz : (Lib.byteCells acc).length + (bs T1).size ≤ 140737488355328 := by rw [Lib.byteCells_length, bs_size]; omega
      clear hT1 hT1l hle1 hpx hpy hbu hbw hlts d0 d1
      go_upto_region 5 with fail
      rw [← hwb, ← hgs]
      clear hwb hgs c0 c1
      go_region_held3 (fun wx => wx.cell? ⟨g, 0, none⟩ = some (.string (bs x)) ∧ wx.cell? ⟨g, 1, none⟩ = some (.string (bs y))) (first
          | (exact ⟨(World.cell?_of_block (a := ⟨g, 0, none⟩) (hoth g (Nat.lt_of_lt_of_le hgb k2.size) (fun e => HV.out.1 e.symm) HV.out.2)).trans (HS.out _ k2).1, (World.cell?_of_block (a := ⟨g, 1, none⟩) (hoth g (Nat.lt_of_lt_of_le hgb k2.size) (fun e => HV.out.1 e.symm) HV.out.2)).trans (HS.out _ k2).2.1⟩)
          | (exact ⟨(HS.out _ k2).1, (HS.out _ k2).2.1⟩)
          | (exact ⟨(HS.out _ k1).1, (HS.out _ k1).2.1⟩)
          | (exact ⟨(HS.out _ (Below.refl _ _).drew).1, (HS.out _ (Below.refl _ _).drew).2.1⟩)
          | (exact ⟨(HS.out _ (Below.refl _ _)).1, (HS.out _ (Below.refl _ _)).2.1⟩)) (first
        | (go_at_call 31; have y9 := k2; refine (writeString_at B B v (Lib.byteCells acc) (bs T1) _ (HBU.out.below k2) hsz (Nat.le_trans hBwb k2.size)).mono ?_; rintro e x3 ⟨rfl, ⟨v', hv'⟩, hb3, hoth⟩; dsimp only)
        | (go_at_call 15; have y9 := k1; (first | refine (HY.out _ k1).mono ?_ | refine (HX.out _ k1).mono ?_); rintro e x2 ⟨rfl, b1⟩
           have k2 : Below wb.heap.size wb x2 := below_via k1 b1
           clear b1; dsimp only)
        | (go_at_call 15; (first | refine (HX.out _ (Below.refl _ _).drew).mono ?_ | refine (HY.out _ (Below.refl _ _).drew).mono ?_); rintro e x1 ⟨rfl, b1⟩
           have k1 : Below wb.heap.size wb x1 := below_via (Below.refl _ _).drew b1
           clear b1; dsimp only))
      all_goals (go_wp2_with fail)
      all_goals go_roundw
      all_goals first
        | (case rel => exact ⟨k + 1, v', by omega, by go_num, by rw [HW.out]; exact hv', HBW.out.trans ((k2.mono hBwb).trans hb3)⟩)
        | (case measure => simp [RowKit.intOf]; omega)
    · obtain rfl : k = l.length := by omega
      have HT : Hid (l.take l.length = l) := Lib.hid (List.take_length)
      rw [HT.out] at hbu
      have HS := Lib.hid (Tryd.Builder_String_any B B (Wr.files l) wr hbu.is (HB.out ▸ hbel.size))
      clear hbu
      go_wp2_with fail
      refine HS.out.mono ?_
      rintro e x1 ⟨rfl, b1⟩
      go_wp2_with fail
      go_ret
      exact ⟨rfl, HB.out ▸ hbel.trans b1⟩
end Go.Proofs.YtmgfbmkfgbildaaDoor
