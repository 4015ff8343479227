/- The walk of stetref12.Break. -/
import Derived.Test.YtjebndjmckefbaaRows
import Derived.Test.YtjebndjmckefbaaKit
import Derived.Test.YtjebndjmckefbaaLnR1
import Derived.Test.YtjebndjmckefbaaLnW2
import Derived.OneCell
namespace Go.Proofs.Ytjebndjmckefbaa
open Go.RowKit

/-- the table's first column, and its second, as cells -/
def colA (D : List (Nat × Nat)) : List Value := D.map fun p => .int .i64 (p.1 : Nat)
def colB (D : List (Nat × Nat)) : List Value := D.map fun p => .int .i64 (p.2 : Nat)
theorem colA_at (D : List (Nat × Nat)) (j : Nat) (p : Nat × Nat) (h : D[j]? = some p) : (colA D)[j]? = some (.int .i64 (p.1 : Nat)) := by simp [colA, h]
theorem colB_at (D : List (Nat × Nat)) (j : Nat) (p : Nat × Nat) (h : D[j]? = some p) : (colB D)[j]? = some (.int .i64 (p.2 : Nat)) := by simp [colB, h]
theorem colA_set (M : Nat) (W : List Nat) (f : Nat) (cur p : Nat × Nat) : (colA (tab M W f cur)).set f (.int .i64 (p.1 : Nat)) = colA (tab M W f p) := by
  rw [← tab_set M W f cur p]; simp [colA, List.map_set]
theorem colB_set (M : Nat) (W : List Nat) (f : Nat) (cur p : Nat × Nat) : (colB (tab M W f cur)).set f (.int .i64 (p.2 : Nat)) = colB (tab M W f p) := by
  rw [← tab_set M W f cur p]; simp [colB, List.map_set]
theorem colA_any (M : Nat) (W : List Nat) (f : Nat) (a b c : Nat) : colA (tab M W f (a, b)) = colA (tab M W f (a, c)) := by simp [colA, tab]
theorem colB_any (M : Nat) (W : List Nat) (f : Nat) (a b c : Nat) : colB (tab M W f (a, c)) = colB (tab M W f (b, c)) := by simp [colB, tab]
theorem made_rep (n : Nat) : madeCells #[Value.int .i64 0] n = (List.replicate n (Value.int .i64 0)).toArray := by
  apply Array.ext
  · simp [size_madeCells]
  · intro i h1 h2; simp [madeCells, Nat.mod_one]

/-- the call's own row of n ints in block g -/
def OwnCol (w : World) (B n g : Nat) (xs : List Value) : Prop := w.ownsRow B 3 1 (.slice (some ⟨g, 0, none⟩) n n) n xs
theorem OwnCol.cell {w : World} {B n g : Nat} {xs : List Value} (h : OwnCol w B n g xs) (j : Nat) (hj : j < n) : w.cell? ⟨g, j, none⟩ = xs[j]? := World.ownsRow.cellAt h j (by omega)
theorem OwnCol.frozen {w : World} {B n g : Nat} {xs : List Value} (h : OwnCol w B n g xs) (j : Nat) : w.frozen? ⟨g, j, none⟩ = false := World.ownsRow.frozenAt h j
theorem OwnCol.set {w : World} {B n g : Nat} {xs : List Value} (h : OwnCol w B n g xs) (j : Nat) (u : Value) : OwnCol (w.setCell ⟨g, j, none⟩ u) B n g (xs.set j u) := (World.ownsRow.stored h j u).1
theorem OwnCol.other {w : World} {B n g g' : Nat} {xs : List Value} (h : OwnCol w B n g xs) (hne : g ≠ g') (j : Nat) (u : Value) : OwnCol (w.setCell ⟨g', j, none⟩ u) B n g xs :=
  ownsRow_setCell_other h (by simpa [Value.ownBlock] using hne) u
theorem two_cols (w : World) (n : Nat) (hn : n ≤ maxLen) : OwnCol ((w.alloc (.cells (List.replicate n (Value.int .i64 0)).toArray 3)).alloc (.cells (List.replicate n (Value.int .i64 0)).toArray 3)).drew w.heap.size n w.heap.size (List.replicate n (Value.int .i64 0)) ∧
    OwnCol ((w.alloc (.cells (List.replicate n (Value.int .i64 0)).toArray 3)).alloc (.cells (List.replicate n (Value.int .i64 0)).toArray 3)).drew w.heap.size n (w.heap.size + 1) (List.replicate n (Value.int .i64 0)) := by
  constructor
  · exact World.ownsRow.drew (World.ownsRow.alloc (World.ownsRow_lit w _ n (Nat.le_refl _) hn (by simp)) _)
  · have h := World.ownsRow_lit (base := w.heap.size) (e := 3) (size := 1) (w.alloc (.cells (List.replicate n (Value.int .i64 0)).toArray 3)) (List.replicate n (Value.int .i64 0)).toArray n (by simp) hn (by simp)
    rw [show (w.alloc (.cells (List.replicate n (Value.int .i64 0)).toArray 3)).heap.size = w.heap.size + 1 from by simp] at h
    exact World.ownsRow.drew h
theorem colA_zero (n : Nat) : colA (List.replicate n (0, 0)) = List.replicate n (Value.int .i64 0) := by simp [colA]
theorem colB_zero (n : Nat) : colB (List.replicate n (0, 0)) = List.replicate n (Value.int .i64 0) := by simp [colB]

set_option maxRecDepth 100000 in
set_option maxHeartbeats 4000000 in
theorem rBreak_any (ws : List Int) (width : Int) (v : Value) (w : World) (hr : Ints w w.heap.size v ws) (hl : ws.length ≤ 1000) :
    Calls Try.prog 11 #[v, .int .i64 width] w fun e w' => ∃ r, e = .returned (.tuple #[r, .int .i64 0]) ∧
      w'.ownsRow w.heap.size 3 1 r (Ln.linesF (min (max width 1) 1000).toNat (ws.map Ln.clip)).length ((Ln.linesF (min (max width 1) 1000).toNat (ws.map Ln.clip)).map (.int .i64)) ∧ Below w.heap.size w w' := by
  obtain ⟨i0, hi0, hz0, hz1, hz2⟩ := info_parts intInfo
  obtain ⟨A, c, rfl, l1, m1, hA⟩ := hr.shape
  obtain ⟨M, hM⟩ : ∃ M : Nat, M = (min (max width 1) 1000).toNat := ⟨_, rfl⟩
  rw [← hM]
  have hM1 : 1 ≤ M := by omega
  have hM2 : M ≤ 1000 := by omega
  have hMi : min (max width 1) 1000 = (M : Int) := by omega
  have HM := Lib.hid hMi
  have HA := Lib.hid hA
  obtain ⟨W, hW⟩ : ∃ W, W = ws.map Ln.clip := ⟨_, rfl⟩
  rw [← hW]
  have hWl : W.length = ws.length := by rw [hW]; simp
  have HWL := Lib.hid hWl
  have HW := Lib.hid hW
  have hmk : ∀ w : World, (Instr.makeSlice 22 (.int .i64 ((ws.length : Int) + 1)) (.int .i64 ((ws.length : Int) + 1))).run Try.prog w = .ok (.slice (some ⟨w.heap.size, 0, none⟩) (ws.length + 1) (ws.length + 1)) (w.alloc (.cells (List.replicate (ws.length + 1) (Value.int .i64 0)).toArray 3)) := by
    intro w
    have h := run_make (P := Try.prog) w 22 3 i0 (.int .i64 0) Try.underlying22 hi0 hz0 .i64 .i64 ((ws.length + 1 : Nat) : Int) ((ws.length + 1 : Nat) : Int) (by omega) (by omega) (by rw [hz2]; omega) (by omega)
    simp only [Int.toNat_natCast, hz1, Nat.mul_one, Value.cells, made_rep] at h
    exact h
  have sW : IntKind.i64.wrap ((ws.length : Int) + 1) = (ws.length : Int) + 1 := IntWalk.i64_in _ (by omega)
  have HR := Lib.hid hr
  clear hM hMi hA hW hWl hr
  go_enter Try.func11, Try.ntmps11
  go_wp2_with (go_at_call 18; refine (rLine_any _ _).mono ?_; rintro e w' ⟨rfl, rfl⟩; rw [HM.out])
  go_cut [8, 9] (fun x y wx => ∃ g1 g2 : Nat, x = .slice (some ⟨g1, 0, none⟩) (ws.length + 1) (ws.length + 1) ∧ y = .slice (some ⟨g2, 0, none⟩) (ws.length + 1) (ws.length + 1) ∧ g1 ≠ g2 ∧ w.heap.size ≤ g1 ∧ w.heap.size ≤ g2 ∧ g1 < w.heap.size + 2 ∧ g2 < w.heap.size + 2 ∧ w.heap.size + 2 ≤ wx.heap.size ∧ Below w.heap.size w wx ∧
    OwnCol wx w.heap.size (ws.length + 1) g1 (colA (List.replicate (ws.length + 1) (0, 0))) ∧ OwnCol wx w.heap.size (ws.length + 1) g2 (colB (List.replicate (ws.length + 1) (0, 0))))
  case first =>
    have htwo := two_cols w (ws.length + 1) (by simp only [maxLen]; omega)
    simp only [List.toArray_replicate] at htwo
    go_region_held3 (fun _ => True) (go_keep) (fail)
    all_goals go_wp2_with fail
    all_goals go_meet
    · exact ⟨_, _, rfl, rfl, by omega, by omega, by omega, by omega, by omega, by simp, (((Below.refl _ _).alloc (Nat.le_refl _) _).alloc (by simp) _).drew, by rw [colA_zero]; exact htwo.1, by rw [colB_zero]; exact htwo.2⟩
    · exact ⟨_, _, rfl, rfl, by omega, by omega, by omega, by omega, by omega, by simp, (((Below.refl _ _).alloc (Nat.le_refl _) _).alloc (by simp) _).drew, by rw [colA_zero]; exact htwo.2, by rw [colB_zero]; exact htwo.1⟩
  case rest =>
    obtain ⟨g1, g2, rfl, rfl, hne, hg1, hg2, hg3, hg4, hsz, hbel0, hown1, hown2⟩ := hcut
    have hne' : g2 ≠ g1 := fun e => hne e.symm
    clear hmk sW
    go_wp2
    go_loopw [10] (fun i wr => ∃ k : Nat, i = .int .i64 ((ws.length : Int) - 1 - k) ∧ k ≤ ws.length ∧ w.heap.size + 2 ≤ wr.heap.size ∧ Below w.heap.size w wr ∧
        OwnCol wr w.heap.size (ws.length + 1) g1 (colA (List.replicate (ws.length - k) (0, 0) ++ Ln.dp M (W.drop (ws.length - k)))) ∧
        OwnCol wr w.heap.size (ws.length + 1) g2 (colB (List.replicate (ws.length - k) (0, 0) ++ Ln.dp M (W.drop (ws.length - k))))) (fun i _ => (intOf i + 1).toNat)
    case atStart =>
      have : List.replicate (ws.length - 0) (0, 0) ++ Ln.dp M (W.drop (ws.length - 0)) = List.replicate (ws.length + 1) (0, 0) := by
        rw [Nat.sub_zero, List.drop_of_length_le (by rw [HWL.out]; exact Nat.le_refl _), List.replicate_succ']; rfl
      exact ⟨0, by simp, Nat.zero_le _, hsz, hbel0, by rw [this]; exact hown1, by rw [this]; exact hown2⟩
    case round =>
      obtain ⟨k, rfl, hk, hsz, hbel, hownA, hownB⟩ := hrel
      clear hown1 hown2 hbel0
      by_cases hlt : k < ws.length
      · obtain ⟨f, hf⟩ : ∃ f, f = ws.length - 1 - k := ⟨_, rfl⟩
        have hf1 : f < ws.length := by omega
        have hf2 : ((ws.length : Int) - 1 - (k : Int)) = (f : Int) := by omega
        have htab : List.replicate (ws.length - k) (0, 0) ++ Ln.dp M (W.drop (ws.length - k)) = tab M W f (0, 0) := by
          rw [show ws.length - k = f + 1 from by omega, List.replicate_succ', tab, List.append_assoc]; rfl
        rw [htab] at hownA hownB
        have hnext : List.replicate (ws.length - (k + 1)) (0, 0) ++ Ln.dp M (W.drop (ws.length - (k + 1))) = tab M W f (Ln.best M (W.drop f)) := by
          rw [show ws.length - (k + 1) = f from by omega, tab]
          have hd : W.drop f = W[f]'(by rw [HWL.out]; exact hf1) :: W.drop (f + 1) := List.drop_eq_getElem_cons _
          rw [hd]; rfl
        have HNX := Lib.hid hnext
        rw [hf2]
        have HF := Lib.hid hf
        have HF2 := Lib.hid hf2
        clear htab hnext hf hf2
        obtain ⟨U, hU⟩ : ∃ U, U = W.drop f := ⟨_, rfl⟩
        rw [← hU] at HNX
        have hUl : U.length = ws.length - f := by rw [hU, List.length_drop, HWL.out]
        obtain ⟨b, off, rfl, hb, hc⟩ := HA.out (by rintro rfl; simp at hlt)
        have hcell := (hbel.cell (p := ⟨b, off + f, none⟩) hb).trans (hc f hf1)
        have hU0 : Ln.clip ws[f] = Ln.tks U 1 := by
          have h1 : U = U[0]'(by omega) :: U.drop 1 := by
            have := List.drop_eq_getElem_cons (l := U) (i := 0) (by omega)
            simpa using this
          have h2 := Ln.tks_one (U[0]'(by omega)) (U.drop 1)
          rw [← h1] at h2
          rw [h2]
          simp only [hU, List.getElem_drop, HW.out, List.getElem_map, Nat.add_zero]
        have hTb : Ln.tks U 1 ≤ 1000 := by rw [← hU0]; exact Ln.clip_le _
        obtain ⟨T, hT⟩ : ∃ T, T = Ln.tks U 1 := ⟨_, rfl⟩
        rw [← hT] at hU0 hTb
        have hbl := Ln.best_le M hM2 _ (W.drop (f + 1)) (Nat.le_refl _)
        have hWd : (W.drop (f + 1)).length ≤ 1000 := by rw [List.length_drop, HWL.out]; omega
        obtain ⟨nx, hnx⟩ : ∃ nx, nx = Ln.best M (W.drop (f + 1)) := ⟨_, rfl⟩
        rw [← hnx] at hbl
        have hcA := hownA.cell (f + 1) (by omega)
        rw [colA_at _ _ nx (by rw [tab_past M W f 1 (0, 0) (Nat.le_refl _) (by rw [HWL.out]; omega), hnx])] at hcA
        have hcF := hownA.cell f (by omega)
        rw [colA_at _ _ _ (tab_at M W f (0, 0))] at hcF
        have hfF := hownA.frozen f
        have hcG := hownB.cell f (by omega)
        rw [colB_at _ _ _ (tab_at M W f (0, 0))] at hcG
        have hfG := hownB.frozen f
        have hX : ∃ X : Nat, (X : Int) = (Ln.lc M T (((f : Int) + 1) == (ws.length : Int)) : Nat) + (nx.1 : Nat) ∧ X = Ln.cand M U 1 := by
          refine ⟨_, rfl, ?_⟩
          have hfl : (((f : Int) + 1) == (ws.length : Int)) = decide (1 = U.length) := by
            rw [Bool.eq_iff_iff, beq_iff_eq, decide_eq_true_iff]; omega
          rw [hfl, hT, hnx]
          unfold Ln.cand
          rw [hU, List.drop_drop]
        obtain ⟨X, hX1, hX2⟩ := hX
        have hXb : X ≤ 2000000000 := by have := Ln.lc_le M T (((f : Int) + 1) == (ws.length : Int)) hM2; omega
        have sA : IntKind.i64.wrap ((f : Int) + 1) = (f : Int) + 1 := IntWalk.i64_in _ (by omega)
        have sB : (0 : Int) ≤ (f : Int) + 1 := by omega
        have sC : ((f : Int) + 1).toNat = f + 1 := by omega
        have sE : (f : Int) + 1 < (ws.length : Int) + 1 := by omega
        have sD : IntKind.i64.wrap ((Ln.lc M T (((f : Int) + 1) == (ws.length : Int)) : Nat) + (nx.1 : Nat) : Int) = X := by rw [← hX1]; exact IntWalk.i64_in _ (by omega)
        have HU := Lib.hid hU
        have HUL := Lib.hid hUl
        have HX1 := Lib.hid hX1
        have HX2 := Lib.hid hX2
        have HTT := Lib.hid hT
        clear hU hUl hT hc hX1 hX2 hnx hbl hWd
        generalize ws[f] = z at *
        go_wp2_with (go_at_call 22; refine (rWidth_any _ _).mono ?_; rintro e w' ⟨rfl, rfl⟩)
        clear hU0
        refine wp_region_quiet_tail 16 (by kernel_rfl) (by kernel_rfl) ?_
        simp only [List.take_succ_cons, List.take_zero, List.drop_succ_cons, List.drop_zero]
        repeat (go_big_quiet_step (fail))
        go_big_quiet_want
        go_big_quiet_op
        refine ⟨_, (rcost_any T M _ _ (by omega) hM2).mono (fun _ _ ⟨h, h'⟩ => ⟨h, h'.symm⟩), ?_⟩
        go_big_quiet_on
        repeat (go_big_quiet_step (fail))
        refine wpQuiet_nil ?_
        have hA2 := hownA.set f (.int .i64 (X : Nat))
        rw [colA_set M W f (0, 0) (X, 1)] at hA2
        replace hA2 := hA2.other hne f (.int .i64 1)
        have hB2 := (hownB.other hne' f (.int .i64 (X : Nat))).set f (.int .i64 ((1 : Nat) : Int))
        rw [colB_set M W f (0, 0) (X, 1)] at hB2
        have hbel2 : Below w.heap.size w (((wr.setCell ⟨g1, f, none⟩ (.int .i64 (X : Nat))).setCell ⟨g2, f, none⟩ (.int .i64 1)).drew) := ((hbel.setCell (by exact hg1) _).setCell (by exact hg2) _).drew
        have HA2 := Lib.hid hA2
        have HB2 := Lib.hid hB2
        have HBE2 := Lib.hid hbel2
        have hin0 : Ln.inner M (Ln.tks U 1) 1 (U.drop 1) (Ln.dp M (U.drop 1)) (X, 1) = Ln.best M U := by
          have hneU : U ≠ [] := by
            rintro rfl
            have := HUL.out
            simp at this; omega
          have := Ln.best_start M U hneU
          rw [HX2.out]; exact this
        have HIN0 := Lib.hid hin0
        clear hA2 hB2 hbel2 hin0 hownA hownB
        go_wp2
        clear hcell hcA hcF hfF hcG hfG sA sB sC sD sE
        go_loopw [11, 12] (fun t i wr => ∃ (m : Nat) (cur : Nat × Nat), t = .int .i64 ((Ln.tks U (m - 1) : Nat) : Int) ∧ i = .int .i64 m ∧ 2 ≤ m ∧ f + m ≤ ws.length + 1 ∧ w.heap.size + 2 ≤ wr.heap.size ∧ Below w.heap.size w wr ∧
            OwnCol wr w.heap.size (ws.length + 1) g1 (colA (tab M W f cur)) ∧ OwnCol wr w.heap.size (ws.length + 1) g2 (colB (tab M W f cur)) ∧
            Hid (1 ≤ cur.2 ∧ cur.2 < m ∧ Ln.inner M (Ln.tks U (m - 1)) (m - 1) (U.drop (m - 1)) (Ln.dp M (U.drop (m - 1))) cur = Ln.best M U)) (fun _ i _ => ws.length + 1 - (intOf i).toNat)
        case atStart => exact ⟨2, (X, 1), by rw [HTT.out], rfl, by omega, by omega, by simpa using hsz, HBE2.out, HA2.out, HB2.out, Nat.le_refl _, by show 1 < 2; omega, HIN0.out⟩
        case round =>
          obtain ⟨m, cur, rfl, rfl, hm1, hm2, hsz, hbel, hownA, hownB, HS⟩ := hrel
          by_cases hle : f + m ≤ ws.length
          · have hle' : (f : Int) + (m : Int) ≤ (ws.length : Int) := by omega
            have hi : f + m - 1 < ws.length := by omega
            obtain ⟨b', off', hbo, hb', hc⟩ := HA.out (by rintro rfl; simp at hlt)
            obtain ⟨rfl, rfl⟩ : b = b' ∧ off = off' := by simpa using hbo
            have hcell := (hbel.cell (p := ⟨b, off + (f + m - 1), none⟩) hb).trans (hc (f + m - 1) hi)
            have hUm : m ≤ U.length := by rw [HUL.out]; omega
            have hz : Ln.clip (ws[f + m - 1]) = U[m - 1]'(by omega) := by
              have h1 : U[m - 1]'(by omega) = W[f + (m - 1)]'(by rw [HWL.out]; omega) := by simp only [HU.out, List.getElem_drop]
              rw [h1]
              simp only [HW.out, List.getElem_map]
              congr 2; omega
            have hT : ((Ln.tks U (m - 1) : Nat) : Int) + 1 + (Ln.clip ws[f + m - 1] : Int) = (Ln.tks U m : Int) := by
              rw [hz]
              have h3 := Ln.tks_succ U (m - 1) (by omega) (by omega)
              rw [show m - 1 + 1 = m from by omega] at h3
              rw [h3]; push_cast; omega
            have hall : ∀ x ∈ U, x ≤ 1000 := fun x hx => by
              rw [HU.out, HW.out] at hx
              exact clips_le ws x (List.mem_of_mem_drop hx)
            have hTb2 : Ln.tks U m ≤ m * 1001 := Ln.tks_le U m hall
            have hTb3 : Ln.tks U (m - 1) ≤ (m - 1) * 1001 := Ln.tks_le U (m - 1) hall
            have hcl := Ln.clip_le ws[f + m - 1]
            clear hc hz hall
            generalize ws[f + m - 1] = z2 at *
            obtain ⟨T2, hTT2⟩ : ∃ T2, T2 = Ln.tks U m := ⟨_, rfl⟩
            rw [← hTT2] at hT hTb2
            have HT := Lib.hid hT
            have HTT2 := Lib.hid hTT2
            clear hT hTT2
            obtain ⟨tp, htp⟩ : ∃ tp, tp = Ln.tks U (m - 1) := ⟨_, rfl⟩
            have HTP := Lib.hid htp
            rw [← htp] at HT HS hTb3
            simp only [← htp]
            clear htp
            go_wp2_with fail
            refine (rWidth_any _ _).mono ?_
            rintro e w' ⟨rfl, rfl⟩
            go_upto_region 15 with fail
            rw [HT.out]
            clear hcell hcl
            by_cases hbrk : M < T2
            · have HE : Hid (cur = Ln.best M U) := by
                show _ = _
                have h1 := HS.out.2.2
                have h2 := Ln.inner_go M U (m - 1) (by omega) (by omega) cur
                rw [show m - 1 + 1 = m from by omega, ← HTT2.out, if_pos hbrk, ← HTP.out, h1] at h2
                exact h2.symm
              go_wp2_with fail
              go_roundw
              case rel => exact ⟨k + 1, by have := HF.out; first | go_num | (congr 1; omega), by omega, hsz, hbel, by rw [HNX.out, ← HE.out]; exact hownA, by rw [HNX.out, ← HE.out]; exact hownB⟩
              case measure => (simp [intOf] <;> omega)
            · have hbl := Ln.best_le M hM2 _ (W.drop (f + m)) (Nat.le_refl _)
              have hWd : (W.drop (f + m)).length ≤ 1000 := by rw [List.length_drop, HWL.out]; omega
              obtain ⟨nx, hnx⟩ : ∃ nx, nx = Ln.best M (W.drop (f + m)) := ⟨_, rfl⟩
              rw [← hnx] at hbl
              have hcA := hownA.cell (f + m) (by omega)
              rw [colA_at _ _ nx (by rw [tab_past M W f m cur (by omega) (by rw [HWL.out]; exact hle), hnx])] at hcA
              have hcF := hownA.cell f (by omega)
              rw [colA_at _ _ _ (tab_at M W f cur)] at hcF
              have hfF := hownA.frozen f
              have hcG := hownB.cell f (by omega)
              rw [colB_at _ _ _ (tab_at M W f cur)] at hcG
              have hfG := hownB.frozen f
              have hX : ∃ X : Nat, (X : Int) = (Ln.lc M T2 (((f : Int) + (m : Int)) == (ws.length : Int)) : Nat) + (nx.1 : Nat) ∧ X = Ln.cand M U m := by
                refine ⟨_, rfl, ?_⟩
                have hfl : (((f : Int) + (m : Int)) == (ws.length : Int)) = decide (m = U.length) := by
                  rw [Bool.eq_iff_iff, beq_iff_eq, decide_eq_true_iff]
                  have := HUL.out
                  omega
                rw [hfl, HTT2.out, hnx]
                unfold Ln.cand
                rw [HU.out, List.drop_drop]
              obtain ⟨X2, hX1, hX2⟩ := hX
              have hXb : X2 ≤ 2000000000 := by have := Ln.lc_le M T2 (((f : Int) + (m : Int)) == (ws.length : Int)) hM2; omega
              have hg2 := Ln.inner_go M U (m - 1) (by omega) (by omega) cur
              have hq1 := HS.out.1
              have hq2 := HS.out.2.1
              have hin := HS.out.2.2
              rw [HTP.out] at hin
              rw [show m - 1 + 1 = m from by omega, ← HTT2.out, if_neg hbrk, hin, ← hX2] at hg2
              have HG2 := Lib.hid hg2
              clear hg2 hin
              have sA : IntKind.i64.wrap ((f : Int) + (m : Int)) = (f : Int) + (m : Int) := IntWalk.i64_in _ (by omega)
              have sB : (0 : Int) ≤ (f : Int) + (m : Int) := by omega
              have sC : ((f : Int) + (m : Int)).toNat = f + m := by omega
              have sE : (f : Int) + (m : Int) < (ws.length : Int) + 1 := by omega
              have sD : IntKind.i64.wrap ((Ln.lc M T2 (((f : Int) + (m : Int)) == (ws.length : Int)) : Nat) + (nx.1 : Nat) : Int) = X2 := by rw [← hX1]; exact IntWalk.i64_in _ (by omega)
              clear hX1 hX2 hnx hbl hWd
              have HOA := Lib.hid hownA
              have HOB := Lib.hid hownB
              have HBE := Lib.hid hbel
              clear hownA hownB hbel
              go_wp2_with fail
              go_quiet ((go_at_call 20; exact quiet_eq (rcost_any T2 M _ _ (by omega) hM2)))
              by_cases hle2 : X2 ≤ cur.1
              · have hA3 := HOA.out.set f (.int .i64 (X2 : Nat))
                rw [colA_set M W f cur (X2, m)] at hA3
                replace hA3 := hA3.other hne f (.int .i64 (m : Nat))
                have hB3 := (HOB.out.other hne' f (.int .i64 (X2 : Nat))).set f (.int .i64 (m : Nat))
                rw [colB_set M W f cur (X2, m)] at hB3
                have HA3 := Lib.hid hA3
                have HB3 := Lib.hid hB3
                skip
                clear hA3 hB3
                go_wp2
                go_roundw
                case rel => exact ⟨m + 1, (X2, m), by rw [Nat.add_sub_cancel, HTT2.out], by go_num, by omega, by omega, by simpa using hsz, ((below_drewN HBE.out _).setCell (by exact hg1) _).setCell (by exact hg2) _, HA3.out, HB3.out, by omega, by show m < m + 1; omega, by rw [Nat.add_sub_cancel, ← HTT2.out, HG2.out, if_pos hle2]⟩
                case measure => (simp [intOf] <;> omega)
              · go_wp2
                go_roundw
                case rel => exact ⟨m + 1, cur, by rw [Nat.add_sub_cancel, HTT2.out], by go_num, by omega, by omega, by simpa using hsz, below_drewN HBE.out _, HOA.out, HOB.out, hq1, by omega, by rw [Nat.add_sub_cancel, ← HTT2.out, HG2.out, if_neg hle2]⟩
                case measure => (simp [intOf] <;> omega)
          · have HE : Hid (cur = Ln.best M U) := by
              show _ = _
              have h1 := HS.out.2.2
              rw [Ln.inner_end M U _ (m - 1) _ (by rw [HUL.out]; omega) cur] at h1
              exact h1
            have hle' : ¬ (f : Int) + (m : Int) ≤ (ws.length : Int) := by omega
            clear HS
            go_wp2_with fail
            go_roundw
            case rel => exact ⟨k + 1, by have := HF.out; first | go_num | (congr 1; omega), by omega, hsz, hbel, by rw [HNX.out, ← HE.out]; exact hownA, by rw [HNX.out, ← HE.out]; exact hownB⟩
            case measure => (simp [intOf] <;> omega)
      · obtain rfl : k = ws.length := by omega
        rw [Nat.sub_self, List.replicate_zero, List.nil_append, List.drop_zero] at hownA hownB
        have hTb : ∀ j, j < ws.length + 1 → wr.cell? ⟨g2, j, none⟩ = some (.int .i64 ((Ln.best M (W.drop j)).2 : Nat)) := by
          intro j hj
          rw [hownB.cell j (by omega), colB_at _ j _ (Ln.dp_get M W j (by rw [HWL.out]; omega))]
        have HTB := Lib.hid hTb
        clear hTb hownA hownB
        go_wp2
        go_loopw [14, 15] (fun o a wr => ∃ (at_ : Nat) (outs : List Int), a = .int .i64 at_ ∧ at_ ≤ ws.length ∧ outs.length ≤ at_ ∧ wr.ownsRow (w.heap.size + 2) 3 1 o outs.length (outs.map (.int .i64)) ∧ Below w.heap.size w wr ∧ w.heap.size + 2 ≤ wr.heap.size ∧
            Hid (∀ j, j < ws.length + 1 → wr.cell? ⟨g2, j, none⟩ = some (.int .i64 ((Ln.best M (W.drop j)).2 : Nat))) ∧ Hid (outs ++ Ln.linesF M (W.drop at_) = Ln.linesF M W)) (fun _ a _ => ws.length - (intOf a).toNat)
        case atStart => exact ⟨0, [], rfl, Nat.zero_le _, Nat.zero_le _, World.ownsRow_made _ #[] 0 hsz (by decide) rfl, hbel.alloc hbel.size _, by simp; omega, fun j hj => (World.cell?_alloc_past _ _ _ (by omega)).trans (HTB.out j hj), rfl⟩
        case round =>
          obtain ⟨at_, outs, rfl, hat, hol, hown, hbel, hsz, HC, HE⟩ := hrel
          by_cases hlt : at_ < ws.length
          · have hne : W.drop at_ ≠ [] := by
              intro h
              have := List.drop_eq_nil_iff.1 h
              rw [HWL.out] at this
              omega
            have hbp := Ln.best_pos M (W.drop at_) hne
            rw [List.length_drop, HWL.out] at hbp
            have hcons := Ln.linesF_cons M (W.drop at_) hne
            rw [List.drop_drop] at hcons
            have hcell := HC.out at_ (by omega)
            have HCO := Lib.hid hcons
            have hbp1 := hbp.1
            have hbp2 := hbp.2
            clear hne hcons hbp
            generalize (Ln.best M (W.drop at_)).2 = fr at *
            go_wp2_with (at_builtin; refine wpList_app1 rfl (.tmp 119) (.tmp 124) 22 rfl (w.heap.size + 2) 3 i0 (.int .i64 0) 8 Try.underlying22 hi0 hz0 hz1 hz2 rfl _ _ _ (.int .i64 fr) rfl rfl rfl hown (by omega) (by simp only [maxLen]; omega) (by omega) ?_; intro v' w2 hown' hbel' _; have hcell2 := (hbel'.cell (p := ⟨g2, at_, none⟩) (by exact hg4)).trans hcell)
            go_roundw
            case rel =>
              refine ⟨at_ + fr, outs ++ [(fr : Int)], by go_num, by omega, by simp; omega, by simpa using hown', hbel.trans (hbel'.mono (by omega)), by have := hbel'.size; omega, fun j hj => (hbel'.cell (p := ⟨g2, j, none⟩) (by exact hg4)).trans (HC.out j hj), ?_⟩
              show _ = _
              rw [← HE.out, HCO.out]; simp
            case measure => (simp [intOf] <;> omega)
          · have HT : Hid (Ln.linesF M W = outs) := by
              show _ = _
              rw [← HE.out, List.drop_of_length_le (by rw [HWL.out]; omega), Ln.linesF_nil]; simp
            clear HE
            go_wp2
            go_ret2
            exact ⟨_, rfl, by rw [HT.out]; exact ⟨hown.1, hown.2.imp id fun ⟨g, cap, cur, h1, h2, h3⟩ => ⟨g, cap, cur, h1, by omega, h3⟩⟩, hbel⟩
end Go.Proofs.Ytjebndjmckefbaa
