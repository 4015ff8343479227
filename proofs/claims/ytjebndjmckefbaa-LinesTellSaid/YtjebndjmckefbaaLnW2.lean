/- The walk of lines.Break. -/
import Derived.Test.YtjebndjmckefbaaRows
import Derived.Test.YtjebndjmckefbaaKit
import Derived.Test.YtjebndjmckefbaaLnPl
import Derived.Test.YtjebndjmckefbaaLnW1
import Derived.StillTailTactics
namespace Go.Proofs.Ytjebndjmckefbaa
open Go.RowKit

set_option maxHeartbeats 400000 in
theorem better_zero (a1 a2 : Int) (w : World) :
    Calls Try.prog 21 #[.agg #[.int .i64 a1, .int .i64 a2], .agg #[.int .i64 0, .int .i64 0]] w fun e w' => e = .returned (.bool true) ∧ Below w.heap.size w w' := by
  go_enter Try.func21, Try.ntmps21
  go_wp2
  go_ret
  exact ⟨rfl, by go_grown⟩

set_option maxHeartbeats 400000 in
theorem better_any (a1 a2 b1 b2 : Int) (w : World) (hb : 1 ≤ b2) (h : b2 < a2) :
    Calls Try.prog 21 #[.agg #[.int .i64 a1, .int .i64 a2], .agg #[.int .i64 b1, .int .i64 b2]] w fun e w' => e = .returned (.bool (decide (a1 ≤ b1))) ∧ Below w.heap.size w w' := by
  have hz : (b2 == 0) = false := by simp; omega
  by_cases h1 : a1 < b1
  · go_enter Try.func21, Try.ntmps21
    go_wp2
    go_ret
    exact ⟨ret_bool (by simp; omega), by go_grown⟩
  · by_cases h2 : a1 = b1
    · subst h2
      have t1 : (a1 == a1) = true := by simp
      go_enter Try.func21, Try.ntmps21
      go_wp2
      go_ret
      exact ⟨ret_bool (by simp), by go_grown⟩
    · have t1 : (a1 == b1) = false := by simpa using h2
      have h3 : ¬ a1 ≤ b1 := by omega
      clear h2
      go_enter Try.func21, Try.ntmps21
      go_wp2
      go_ret
      exact ⟨ret_bool (by simp; omega), by go_grown⟩

/-- the table in memory: two cells a place -/
def flat : List (Nat × Nat) → List Value
  | [] => []
  | p :: D => .int .i64 (p.1 : Nat) :: .int .i64 (p.2 : Nat) :: flat D
theorem flat_len (D : List (Nat × Nat)) : (flat D).length = D.length * 2 := by
  induction D with
  | nil => rfl
  | cons p D ih => simp [flat, ih]; omega
theorem flat_at (D : List (Nat × Nat)) : ∀ j (h : j < D.length), (flat D)[j * 2]? = some (.int .i64 (D[j].1 : Nat)) ∧ (flat D)[j * 2 + 1]? = some (.int .i64 (D[j].2 : Nat)) := by
  induction D with
  | nil => intro j h; simp at h
  | cons p D ih =>
    intro j h
    cases j with
    | zero => exact ⟨rfl, rfl⟩
    | succ j =>
      have := ih j (by simpa using h)
      rw [show (j + 1) * 2 = j * 2 + 1 + 1 from by omega]
      simpa [flat] using this
theorem flat_set (D : List (Nat × Nat)) : ∀ j (p : Nat × Nat), ((flat D).set (j * 2) (.int .i64 (p.1 : Nat))).set (j * 2 + 1) (.int .i64 (p.2 : Nat)) = flat (D.set j p) := by
  induction D with
  | nil => intro j p; rfl
  | cons q D ih =>
    intro j p
    cases j with
    | zero => rfl
    | succ j =>
      rw [show (j + 1) * 2 = j * 2 + 1 + 1 from by omega]
      simp only [flat, List.set_cons_succ]
      rw [ih j p]
theorem flat_zero (n : Nat) : flat (List.replicate n (0, 0)) = (madeCells #[Value.int .i64 0, Value.int .i64 0] (n * 2)).toList := by
  apply List.ext_getElem?
  intro j
  by_cases hj : j < n * 2
  · obtain ⟨i, hi⟩ : ∃ i, j = i * 2 ∨ j = i * 2 + 1 := ⟨j / 2, by omega⟩
    have hin : i < n := by omega
    have h := flat_at (List.replicate n (0, 0)) i (by simpa using hin)
    simp only [List.getElem_replicate] at h
    rcases hi with rfl | rfl
    · rw [h.1]; simp [madeCells, hj]
    · rw [h.2]; simp [madeCells, hj]
  · rw [List.getElem?_eq_none (by rw [flat_len]; simp; omega), List.getElem?_eq_none (by rw [Array.length_toList, size_madeCells]; omega)]
theorem restInfo : (Try.prog.info? 43).map (fun i => (i.zero, i.size, i.bytes)) = some (some (.agg #[.int .i64 0, .int .i64 0]), 2, 16) := by kernel_rfl

/-- the table while the place f is being reckoned -/
def tab (M : Nat) (W : List Nat) (f : Nat) (cur : Nat × Nat) : List (Nat × Nat) := List.replicate f (0, 0) ++ cur :: Ln.dp M (W.drop (f + 1))
theorem tab_len (M : Nat) (W : List Nat) (f : Nat) (cur : Nat × Nat) (h : f < W.length) : (tab M W f cur).length = W.length + 1 := by
  simp [tab, Ln.dp_len]; omega
theorem tab_at (M : Nat) (W : List Nat) (f : Nat) (cur : Nat × Nat) : (tab M W f cur)[f]? = some cur := by
  unfold tab
  rw [List.getElem?_append_right (by simp)]
  simp
theorem tab_past (M : Nat) (W : List Nat) (f m : Nat) (cur : Nat × Nat) (hm : 1 ≤ m) (h : f + m ≤ W.length) : (tab M W f cur)[f + m]? = some (Ln.best M (W.drop (f + m))) := by
  unfold tab
  rw [List.getElem?_append_right (by simp)]
  obtain ⟨k, rfl⟩ : ∃ k, m = k + 1 := ⟨m - 1, by omega⟩
  simp only [List.length_replicate, show f + (k + 1) - f = k + 1 from by omega, List.getElem?_cons_succ]
  rw [Ln.dp_get M (W.drop (f + 1)) k (by simp; omega), List.drop_drop]
  congr 3; omega
theorem tab_set (M : Nat) (W : List Nat) (f : Nat) (cur p : Nat × Nat) : (tab M W f cur).set f p = tab M W f p := by
  unfold tab
  rw [List.set_append_right _ _ (by simp)]
  simp
theorem flat_at? (D : List (Nat × Nat)) (j : Nat) (p : Nat × Nat) (h : D[j]? = some p) : (flat D)[j * 2]? = some (.int .i64 (p.1 : Nat)) ∧ (flat D)[j * 2 + 1]? = some (.int .i64 (p.2 : Nat)) := by
  obtain ⟨hj, he⟩ := List.getElem?_eq_some_iff.1 h
  have := flat_at D j hj
  rw [he] at this
  exact this

set_option maxRecDepth 100000 in
set_option maxHeartbeats 4000000 in
theorem Break_any (ws : List Int) (width : Int) (v : Value) (w : World) (hr : Ints w w.heap.size v ws) (hl : ws.length ≤ 1000) :
    Calls Try.prog 10 #[v, .int .i64 width] w fun e w' => ∃ r, e = .returned (.tuple #[r, .int .i64 0]) ∧
      w'.ownsRow w.heap.size 3 1 r (Ln.linesF (min (max width 1) 1000).toNat (ws.map Ln.clip)).length ((Ln.linesF (min (max width 1) 1000).toNat (ws.map Ln.clip)).map (.int .i64)) ∧ Below w.heap.size w w' := by
  obtain ⟨i0, hi0, hz0, hz1, hz2⟩ := info_parts intInfo
  obtain ⟨ir, hir, hrz, hr1, hr2⟩ := info_parts restInfo
  obtain ⟨A, c, rfl, l1, m1, hA⟩ := hr.shape
  obtain ⟨M, hM⟩ : ∃ M : Nat, M = (min (max width 1) 1000).toNat := ⟨_, rfl⟩
  rw [← hM]
  have hM1 : 1 ≤ M := by omega
  have hM2 : M ≤ 1000 := by omega
  have hMi : min (max width 1) 1000 = (M : Int) := by omega
  have HM := Lib.hid hMi
  have HA := Lib.hid hA
  obtain ⟨W, hW⟩ : ∃ W, W = ws.map Ln.clip := ⟨_, rfl⟩
  rw [← hW]
  have hWl : W.length = ws.length := by rw [hW]; simp
  have HWL := Lib.hid hWl
  have HW := Lib.hid hW
  clear hM hMi hA hW hWl
  go_enter Try.func10, Try.ntmps10
  go_wp2_with (first
    | (go_at_call 15; refine (cut_any _ _ _ _).mono ?_; rintro e w' ⟨rfl, rfl⟩; rw [HM.out])
    | (at_make; refine wpList_make_full _ rfl _ _ 41 rfl w.heap.size 43 ir _ 2 Try.underlying41 hir hrz hr1 _ _ _ _ (ws.length + 1) rfl rfl (by omega) (by omega) (by rw [hr2]; omega) (by simp only [maxLen]; omega) (Nat.le_refl _) ?_; intro w1 hown1 hg1))
  have hown1' : w1.ownsRow w.heap.size 43 2 (.slice (some ⟨w.heap.size, 0, none⟩) (ws.length + 1) (ws.length + 1)) (ws.length + 1) (flat (List.replicate (ws.length + 1) (0, 0))) := by
    rw [flat_zero]; exact hown1
  have hb1 : Below w.heap.size w w1 := (Below.refl _ _).grown hg1 (Nat.le_refl _) (by intro k hk; cases hk)
  have HR := Lib.hid hr
  clear hown1 hg1 hr
  go_wp2
  go_loopw [26] (fun i wr => ∃ k : Nat, i = .int .i64 k ∧ k ≤ ws.length ∧ Below w.heap.size w wr ∧
      wr.ownsRow w.heap.size 43 2 (.slice (some ⟨w.heap.size, 0, none⟩) (ws.length + 1) (ws.length + 1)) (ws.length + 1) (flat (List.replicate (ws.length - k) (0, 0) ++ Ln.dp M (W.drop (ws.length - k))))) (fun i _ => ws.length - (intOf i).toNat)
  case atStart =>
    refine ⟨0, rfl, Nat.zero_le _, hb1, ?_⟩
    have : List.replicate (ws.length - 0) (0, 0) ++ Ln.dp M (W.drop (ws.length - 0)) = List.replicate (ws.length + 1) (0, 0) := by
      rw [Nat.sub_zero, List.drop_of_length_le (by rw [HWL.out]; exact Nat.le_refl _), List.replicate_succ']; rfl
    rw [this]; exact hown1'
  case round =>
    obtain ⟨k, rfl, hk, hbel, hown⟩ := hrel
    clear hown1' hb1
    by_cases hlt : k < ws.length
    · obtain ⟨f, hf⟩ : ∃ f, f = ws.length - 1 - k := ⟨_, rfl⟩
      have hf1 : f < ws.length := by omega
      have hf2 : ((ws.length : Int) - 1 - (k : Int)) = (f : Int) := by omega
      have htab : List.replicate (ws.length - k) (0, 0) ++ Ln.dp M (W.drop (ws.length - k)) = tab M W f (0, 0) := by
        rw [show ws.length - k = f + 1 from by omega, List.replicate_succ', tab, List.append_assoc]; rfl
      rw [htab] at hown
      have hnext : List.replicate (ws.length - (k + 1)) (0, 0) ++ Ln.dp M (W.drop (ws.length - (k + 1))) = tab M W f (Ln.best M (W.drop f)) := by
        rw [show ws.length - (k + 1) = f from by omega, tab]
        have hd : W.drop f = W[f]'(by rw [HWL.out]; exact hf1) :: W.drop (f + 1) := List.drop_eq_getElem_cons _
        rw [hd]; rfl
      have HNX := Lib.hid hnext
      have HF := Lib.hid hf
      have HF2 := Lib.hid hf2
      clear htab hnext hf hf2
      go_upto_region 10 with fail
      rw [HF2.out]
      obtain ⟨U, hU⟩ : ∃ U, U = W.drop f := ⟨_, rfl⟩
      rw [← hU] at HNX
      have hUl : U.length = ws.length - f := by rw [hU, List.length_drop, HWL.out]
      have HU := Lib.hid hU
      have HUL := Lib.hid hUl
      clear hU hUl
      go_wp2
      go_loopw [10, 11] (fun t i wr => ∃ (m : Nat) (tt : Int) (cur : Nat × Nat), t = .int .i64 tt ∧ i = .int .i64 m ∧ 1 ≤ m ∧ f + m ≤ ws.length + 1 ∧ -1 ≤ tt ∧ tt ≤ m * 1001 ∧ Below w.heap.size w wr ∧
          wr.ownsRow w.heap.size 43 2 (.slice (some ⟨w.heap.size, 0, none⟩) (ws.length + 1) (ws.length + 1)) (ws.length + 1) (flat (tab M W f cur)) ∧
          Hid ((m = 1 → tt = -1 ∧ cur = (0, 0)) ∧ (2 ≤ m → 1 ≤ cur.2 ∧ cur.2 < m ∧ tt = Ln.tks U (m - 1) ∧ Ln.inner M (Ln.tks U (m - 1)) (m - 1) (U.drop (m - 1)) (Ln.dp M (U.drop (m - 1))) cur = Ln.best M U))) (fun _ i _ => ws.length + 1 - (intOf i).toNat)
      case atStart => exact ⟨1, -1, (0, 0), rfl, rfl, by omega, by omega, by omega, by omega, hbel, hown, fun _ => ⟨rfl, rfl⟩, fun h => by omega⟩
      case round =>
        obtain ⟨m, tt, cur, rfl, rfl, hm1, hm2, ht1, ht2, hbel, hown, HS⟩ := hrel
        by_cases hle : f + m ≤ ws.length
        · obtain ⟨b, off, rfl, hb, hc⟩ := HA.out (by rintro rfl; simp at hlt)
          have hi : f + m - 1 < ws.length := by omega
          have hcell := (hbel.cell (p := ⟨b, off + (f + m - 1), none⟩) hb).trans (hc (f + m - 1) hi)
          have hUm : m ≤ U.length := by rw [HUL.out]; omega
          have hz : Ln.clip (ws[f + m - 1]) = U[m - 1]'(by omega) := by
            have h1 : U[m - 1]'(by omega) = W[f + (m - 1)]'(by rw [HWL.out]; omega) := by simp only [HU.out, List.getElem_drop]
            rw [h1]
            simp only [HW.out, List.getElem_map]
            congr 2; omega
          have hT : tt + (1 + (Ln.clip ws[f + m - 1] : Int)) = (Ln.tks U m : Int) := by
            rw [hz]
            by_cases h1 : m = 1
            · have := (HS.out.1 h1).1
              subst h1
              rw [this]
              have hU0 : U = U[0]'(by omega) :: U.drop 1 := by
                have := List.drop_eq_getElem_cons (l := U) (i := 0) (by omega)
                simpa using this
              have : Ln.tks U 1 = U[0]'(by omega) := by
                have h := Ln.tks_one (U[0]'(by omega)) (U.drop 1)
                rw [← hU0] at h; exact h
              rw [this, show (U[1 - 1]'(by omega)) = U[0]'(by omega) from rfl]; omega
            · have h2 := (HS.out.2 (by omega)).2.2.1
              have h3 := Ln.tks_succ U (m - 1) (by omega) (by omega)
              rw [show m - 1 + 1 = m from by omega] at h3
              rw [h2, h3]; push_cast; omega
          have hTb : Ln.tks U m ≤ m * 1001 := Ln.tks_le U m (fun x hx => by
            rw [HU.out, HW.out] at hx
            exact clips_le ws x (List.mem_of_mem_drop hx))
          clear hc hz
          generalize hzz : ws[f + m - 1] = z at *
          clear hzz
          obtain ⟨T, hTT⟩ : ∃ T, T = Ln.tks U m := ⟨_, rfl⟩
          rw [← hTT] at hT hTb
          have HT := Lib.hid hT
          have HTT := Lib.hid hTT
          clear hT hTT
          go_wp2_with fail
          refine (cut_clip _ _).mono ?_
          rintro e w' ⟨rfl, rfl⟩
          have hcl := Ln.clip_le z
          go_upto_region 15 with fail
          rw [HT.out]
          by_cases hbrk : 1 < m ∧ M < T
          · have hk1 := hbrk.1
            have hk2 := hbrk.2
            have HE : Hid (cur = Ln.best M U) := by
              show _ = _
              have h1 := (HS.out.2 (by omega)).2.2.2
              have h2 := Ln.inner_go M U (m - 1) (by omega) (by omega) cur
              rw [show m - 1 + 1 = m from by omega, ← HTT.out, if_pos hk2, h1] at h2
              exact h2.symm
            clear hbrk
            go_wp2_with fail
            go_roundw
            case rel => exact ⟨k + 1, by go_num, by omega, hbel, by rw [HNX.out, ← HE.out]; exact hown⟩
            case measure => simp [intOf]; omega
          · have hbl := Ln.best_le M hM2 _ (W.drop (f + m)) (Nat.le_refl _)
            have hWd : (W.drop (f + m)).length ≤ 1000 := by rw [List.length_drop, HWL.out]; omega
            obtain ⟨nx, hnx⟩ : ∃ nx, nx = Ln.best M (W.drop (f + m)) := ⟨_, rfl⟩
            rw [← hnx] at hbl
            have hfc := flat_at? (tab M W f cur) (f + m) nx (by rw [tab_past M W f m cur hm1 (by rw [HWL.out]; exact hle), hnx])
            have hcA := hown.cellAt ((f + m) * 2) (by omega)
            rw [hfc.1] at hcA
            have hnb : nx.1 ≤ 1000000000 := by omega
            have HNB := Lib.hid hnx
            clear hfc hnx hbl hWd
            obtain ⟨flag, hflag⟩ : ∃ flag : Bool, flag = (((f : Int) + (m : Int)) == (ws.length : Int)) := ⟨_, rfl⟩
            have hfl : flag = decide (m = U.length) := by
              rw [hflag, Bool.eq_iff_iff, beq_iff_eq, decide_eq_true_iff]
              have := HUL.out
              omega
            have hlc := Ln.lc_le M T flag hM2
            have HFG := Lib.hid hflag
            have HFL := Lib.hid hfl
            clear hfl hflag
            by_cases h1m : 1 < m
            · have hMT : ¬ M < T := fun h => hbrk ⟨h1m, h⟩
              clear hbrk
              have sA : IntKind.i64.wrap ((f : Int) + (m : Int)) = (f : Int) + (m : Int) := IntWalk.i64_in _ (by omega)
              have sB : (0 : Int) ≤ (f : Int) + (m : Int) := by omega
              have sC : ((f : Int) + (m : Int)).toNat = f + m := by omega
              have sE : (f : Int) + (m : Int) < (ws.length : Int) + 1 := by omega
              have sD : ∀ b : Bool, IntKind.i64.wrap ((Ln.lc M T b : Nat) + (nx.1 : Nat) : Int) = (Ln.lc M T b : Nat) + (nx.1 : Nat) := fun b => IntWalk.i64_in _ (by have := Ln.lc_le M T b hM2; omega)
              have hX : ∃ X : Nat, (X : Int) = (Ln.lc M T (((f : Int) + (m : Int)) == (ws.length : Int)) : Nat) + (nx.1 : Nat) ∧ X = Ln.cand M U m := by
                refine ⟨_, rfl, ?_⟩
                rw [← HFG.out, HFL.out, HNB.out, HTT.out]
                unfold Ln.cand
                rw [HU.out, List.drop_drop]
              obtain ⟨X, hX1, hX2⟩ := hX
              have HX1 := Lib.hid hX1
              have HX2 := Lib.hid hX2
              clear hX1 hX2
              go_upto_region 16 with fail
              go_cut [12] (fun p wx => ∃ gx : Nat, p = .pointer (some ⟨gx, 0, none⟩) ∧ wx.cell? ⟨gx, 0, none⟩ = some (.int .i64 X) ∧ wx.cell? ⟨gx, 1, none⟩ = some (.int .i64 m) ∧ gx < wx.heap.size ∧ Below w.heap.size w wx ∧
                wx.ownsRow w.heap.size 43 2 (.slice (some ⟨w.heap.size, 0, none⟩) (ws.length + 1) (ws.length + 1)) (ws.length + 1) (flat (tab M W f cur)))
              case first =>
                go_region_held3 (fun w' => w'.cell? ⟨w.heap.size, (f + m) * 2, none⟩ = some (.int .i64 nx.1)) (go_keep) (first | (go_at_call 17; refine (cost_any T M _ _ (by omega) hM2).mono ?_; rintro e w' ⟨rfl, rfl⟩))
                all_goals
                  go_wp2_with fail
                  go_meet
                  refine ⟨wr.heap.size, rfl, ?_, ?_, by simp, (hbel.alloc hbel.size _).drew, (hown.alloc _).drew⟩
                  · rw [← HX1.out]; simp [World.cell?_alloc_new]
                  · simp [World.cell?_alloc_new]
              case rest =>
                obtain ⟨gx, rfl, hx0, hx1, hgx, hbelx, hownx⟩ := hcut
                have HSS := HS.out.2 (by omega)
                have hq1 := HSS.1
                have hq2 := HSS.2.1
                have hin := HSS.2.2.2
                have hg2 := Ln.inner_go M U (m - 1) (by omega) (by omega) cur
                rw [show m - 1 + 1 = m from by omega, ← HTT.out, if_neg hMT, hin, ← HX2.out] at hg2
                have hfc := flat_at? (tab M W f cur) f cur (tab_at M W f cur)
                have hcF0 := hownx.cellAt (f * 2) (by omega)
                have hcF1 := hownx.cellAt (f * 2 + 1) (by omega)
                rw [hfc.1] at hcF0
                rw [hfc.2] at hcF1
                have hfF0 := hownx.frozenAt (f * 2)
                have hfF1 := hownx.frozenAt (f * 2 + 1)
                have HG2 := Lib.hid hg2
                have HTab := Lib.hid hownx
                clear hg2 hfc hin HSS hcA hownx hown
                go_upto_region 17 with fail
                have hL0 := fun (d : Nat) (os : Array Obj) => cell_regrown hx0 d os
                have hL1 := fun (d : Nat) (os : Array Obj) => cell_regrown hx1 d os
                have hL2 := fun (d : Nat) (os : Array Obj) => cell_regrown hcF0 d os
                have hL3 := fun (d : Nat) (os : Array Obj) => cell_regrown hcF1 d os
                refine wp_region_quiet_below (by kernel_rfl) (by kernel_rfl) ?_
                repeat (go_big_quiet_step ((go_at_call 21; exact calls_regrown (better_any _ _ _ _ _ (by omega) (by omega)))))
                refine wpQuiet_nil ?_
                intro _ hw'
                obtain ⟨p, hw''⟩ := hw'
                subst hw''
                have hbw : Below wc.heap.size wc (Go.Sort.grow (redrawn wc p.d) p.os) := regrown_below wc p
                have hy0 := (hbw.cell (p := ⟨gx, 0, none⟩) hgx).trans hx0
                have hy1 := (hbw.cell (p := ⟨gx, 1, none⟩) hgx).trans hx1
                have hown2 := own_below HTab.out hbw
                have hbel2 : Below w.heap.size w (Go.Sort.grow (redrawn wc p.d) p.os) := hbelx.trans (hbw.mono hbelx.size)
                clear hL0 hL1 hL2 hL3 hx0 hx1 hcF0 hcF1 hfF0 hfF1 HTab hbelx hbw
                generalize Go.Sort.grow (redrawn wc p.d) p.os = w2 at *
                have hfc := flat_at? (tab M W f cur) f cur (tab_at M W f cur)
                have hcF0 := hown2.cellAt (f * 2) (by omega)
                have hcF1 := hown2.cellAt (f * 2 + 1) (by omega)
                rw [hfc.1] at hcF0
                rw [hfc.2] at hcF1
                have hfF0 := hown2.frozenAt (f * 2)
                have hfF1 := hown2.frozenAt (f * 2 + 1)
                have HTab := Lib.hid hown2
                clear hfc hown2
                by_cases hle2 : X ≤ cur.1
                · have HTab2 : Hid (((w2.setCell ⟨w.heap.size, f * 2, none⟩ (.int .i64 X)).setCell ⟨w.heap.size, f * 2 + 1, none⟩ (.int .i64 m)).ownsRow w.heap.size 43 2 (.slice (some ⟨w.heap.size, 0, none⟩) (ws.length + 1) (ws.length + 1)) (ws.length + 1) (flat (tab M W f (X, m)))) := by
                    have h1 := (HTab.out.stored (f * 2) (.int .i64 X)).1
                    have h2 := (h1.stored (f * 2 + 1) (.int .i64 m)).1
                    rw [flat_set (tab M W f cur) f (X, m), tab_set] at h2
                    exact h2
                  have HB2 : Hid (Below w.heap.size w ((w2.setCell ⟨w.heap.size, f * 2, none⟩ (.int .i64 X)).setCell ⟨w.heap.size, f * 2 + 1, none⟩ (.int .i64 m))) := (hbel2.setCell (Nat.le_refl _) _).setCell (Nat.le_refl _) _
                  go_wp2
                  go_roundw
                  case rel => exact ⟨m + 1, T, (X, m), by go_num, by go_num, by omega, by omega, by omega, by omega, HB2.out, HTab2.out, fun h => by omega, fun _ => ⟨hm1, by show m < m + 1; omega, by rw [Nat.add_sub_cancel, HTT.out], by rw [Nat.add_sub_cancel, ← HTT.out, HG2.out, if_pos hle2]⟩⟩
                  case measure => simp [intOf]; omega
                · go_wp2
                  go_roundw
                  case rel => exact ⟨m + 1, T, cur, by go_num, by go_num, by omega, by omega, by omega, by omega, hbel2, HTab.out, fun h => by omega, fun _ => ⟨hq1, by omega, by rw [Nat.add_sub_cancel, HTT.out], by rw [Nat.add_sub_cancel, ← HTT.out, HG2.out, if_neg hle2]⟩⟩
                  case measure => simp [intOf]; omega
            · have h1m' : m = 1 := by omega
              have hcur := (HS.out.1 h1m').2
              subst hcur
              have H1M := Lib.hid h1m'
              clear h1m'
              clear hbrk
              have sA : IntKind.i64.wrap ((f : Int) + (m : Int)) = (f : Int) + (m : Int) := IntWalk.i64_in _ (by omega)
              have sB : (0 : Int) ≤ (f : Int) + (m : Int) := by omega
              have sC : ((f : Int) + (m : Int)).toNat = f + m := by omega
              have sE : (f : Int) + (m : Int) < (ws.length : Int) + 1 := by omega
              have sD : ∀ b : Bool, IntKind.i64.wrap ((Ln.lc M T b : Nat) + (nx.1 : Nat) : Int) = (Ln.lc M T b : Nat) + (nx.1 : Nat) := fun b => IntWalk.i64_in _ (by have := Ln.lc_le M T b hM2; omega)
              have hX : ∃ X : Nat, (X : Int) = (Ln.lc M T (((f : Int) + (m : Int)) == (ws.length : Int)) : Nat) + (nx.1 : Nat) ∧ X = Ln.cand M U m := by
                refine ⟨_, rfl, ?_⟩
                rw [← HFG.out, HFL.out, HNB.out, HTT.out]
                unfold Ln.cand
                rw [HU.out, List.drop_drop]
              obtain ⟨X, hX1, hX2⟩ := hX
              have HX1 := Lib.hid hX1
              have HX2 := Lib.hid hX2
              clear hX1 hX2
              go_upto_region 16 with fail
              go_cut [12] (fun p wx => ∃ gx : Nat, p = .pointer (some ⟨gx, 0, none⟩) ∧ wx.cell? ⟨gx, 0, none⟩ = some (.int .i64 X) ∧ wx.cell? ⟨gx, 1, none⟩ = some (.int .i64 m) ∧ gx < wx.heap.size ∧ Below w.heap.size w wx ∧
                wx.ownsRow w.heap.size 43 2 (.slice (some ⟨w.heap.size, 0, none⟩) (ws.length + 1) (ws.length + 1)) (ws.length + 1) (flat (tab M W f (0, 0))))
              case first =>
                go_region_held3 (fun w' => w'.cell? ⟨w.heap.size, (f + m) * 2, none⟩ = some (.int .i64 nx.1)) (go_keep) (first | (go_at_call 17; refine (cost_any T M _ _ (by omega) hM2).mono ?_; rintro e w' ⟨rfl, rfl⟩))
                all_goals
                  go_wp2_with fail
                  go_meet
                  refine ⟨wr.heap.size, rfl, ?_, ?_, by simp, (hbel.alloc hbel.size _).drew, (hown.alloc _).drew⟩
                  · rw [← HX1.out]; simp [World.cell?_alloc_new]
                  · simp [World.cell?_alloc_new]
              case rest =>
                obtain ⟨gx, rfl, hx0, hx1, hgx, hbelx, hownx⟩ := hcut
                have hg2 : Ln.inner M T m (U.drop m) (Ln.dp M (U.drop m)) (X, m) = Ln.best M U := by
                  have hne : U ≠ [] := by
                    rintro rfl
                    have := HUL.out
                    simp at this; omega
                  have := Ln.best_start M U hne
                  rw [HTT.out, HX2.out, H1M.out]
                  exact this
                have hfc := flat_at? (tab M W f (0, 0)) f (0, 0) (tab_at M W f (0, 0))
                have hcF0 := hownx.cellAt (f * 2) (by omega)
                have hcF1 := hownx.cellAt (f * 2 + 1) (by omega)
                rw [hfc.1] at hcF0
                rw [hfc.2] at hcF1
                replace hcF0 : _ = some (Value.int .i64 0) := hcF0
                replace hcF1 : _ = some (Value.int .i64 0) := hcF1
                have hfF0 := hownx.frozenAt (f * 2)
                have hfF1 := hownx.frozenAt (f * 2 + 1)
                have HG2 := Lib.hid hg2
                have HTab := Lib.hid hownx
                clear hg2 hfc hcA hownx hown
                go_upto_region 17 with fail
                have hL0 := fun (d : Nat) (os : Array Obj) => cell_regrown hx0 d os
                have hL1 := fun (d : Nat) (os : Array Obj) => cell_regrown hx1 d os
                have hL2 := fun (d : Nat) (os : Array Obj) => cell_regrown hcF0 d os
                have hL3 := fun (d : Nat) (os : Array Obj) => cell_regrown hcF1 d os
                refine wp_region_quiet_below (by kernel_rfl) (by kernel_rfl) ?_
                repeat (go_big_quiet_step ((go_at_call 21; exact calls_regrown (better_zero _ _ _))))
                refine wpQuiet_nil ?_
                intro _ hw'
                obtain ⟨p, hw''⟩ := hw'
                subst hw''
                have hbw : Below wc.heap.size wc (Go.Sort.grow (redrawn wc p.d) p.os) := regrown_below wc p
                have hy0 := (hbw.cell (p := ⟨gx, 0, none⟩) hgx).trans hx0
                have hy1 := (hbw.cell (p := ⟨gx, 1, none⟩) hgx).trans hx1
                have hown2 := own_below HTab.out hbw
                have hbel2 : Below w.heap.size w (Go.Sort.grow (redrawn wc p.d) p.os) := hbelx.trans (hbw.mono hbelx.size)
                clear hL0 hL1 hL2 hL3 hx0 hx1 hcF0 hcF1 hfF0 hfF1 HTab hbelx hbw
                generalize Go.Sort.grow (redrawn wc p.d) p.os = w2 at *
                have hfc := flat_at? (tab M W f (0, 0)) f (0, 0) (tab_at M W f (0, 0))
                have hcF0 := hown2.cellAt (f * 2) (by omega)
                have hcF1 := hown2.cellAt (f * 2 + 1) (by omega)
                rw [hfc.1] at hcF0
                rw [hfc.2] at hcF1
                replace hcF0 : _ = some (Value.int .i64 0) := hcF0
                replace hcF1 : _ = some (Value.int .i64 0) := hcF1
                have hfF0 := hown2.frozenAt (f * 2)
                have hfF1 := hown2.frozenAt (f * 2 + 1)
                have HTab := Lib.hid hown2
                clear hfc hown2
                have HTab2 : Hid (((w2.setCell ⟨w.heap.size, f * 2, none⟩ (.int .i64 X)).setCell ⟨w.heap.size, f * 2 + 1, none⟩ (.int .i64 m)).ownsRow w.heap.size 43 2 (.slice (some ⟨w.heap.size, 0, none⟩) (ws.length + 1) (ws.length + 1)) (ws.length + 1) (flat (tab M W f (X, m)))) := by
                  have h1 := (HTab.out.stored (f * 2) (.int .i64 X)).1
                  have h2 := (h1.stored (f * 2 + 1) (.int .i64 m)).1
                  rw [flat_set (tab M W f (0, 0)) f (X, m), tab_set] at h2
                  exact h2
                have HB2 : Hid (Below w.heap.size w ((w2.setCell ⟨w.heap.size, f * 2, none⟩ (.int .i64 X)).setCell ⟨w.heap.size, f * 2 + 1, none⟩ (.int .i64 m))) := (hbel2.setCell (Nat.le_refl _) _).setCell (Nat.le_refl _) _
                go_wp2
                go_roundw
                case rel => exact ⟨m + 1, T, (X, m), by go_num, by go_num, by omega, by omega, by omega, by omega, HB2.out, HTab2.out, fun h => by omega, fun _ => ⟨hm1, by show m < m + 1; omega, by rw [Nat.add_sub_cancel, HTT.out], by rw [Nat.add_sub_cancel, ← HTT.out, HG2.out]⟩⟩
                case measure => simp [intOf]; omega
        · have HE : Hid (cur = Ln.best M U) := by
            show _ = _
            have h1 := (HS.out.2 (by omega)).2.2.2
            rw [Ln.inner_end M U _ (m - 1) _ (by rw [HUL.out]; omega) cur] at h1
            exact h1
          clear HS
          go_wp2_with fail
          go_roundw
          case rel => exact ⟨k + 1, by go_num, by omega, hbel, by rw [HNX.out, ← HE.out]; exact hown⟩
          case measure => simp [intOf]; omega
    · obtain rfl : k = ws.length := by omega
      rw [Nat.sub_self, List.replicate_zero, List.nil_append, List.drop_zero] at hown
      have hTc : ∀ j (p : Nat × Nat), (Ln.dp M W)[j]? = some p → j < ws.length + 1 → wr.cell? ⟨w.heap.size, j * 2 + 1, none⟩ = some (.int .i64 (p.2 : Nat)) := by
        intro j p hp hj
        rw [hown.cellAt (j * 2 + 1) (by omega), (flat_at? _ j p hp).2]
      have hTb : ∀ j, j < ws.length + 1 → wr.cell? ⟨w.heap.size, j * 2 + 1, none⟩ = some (.int .i64 ((Ln.best M (W.drop j)).2 : Nat)) :=
        fun j hj => hTc j _ (Ln.dp_get M W j (by rw [HWL.out]; omega)) hj
      have hgs : w.heap.size < wr.heap.size := by
        rcases hown.2 with ⟨h, _⟩ | ⟨g, cap, cur, hv, _, hg, _⟩
        · cases h
        · injection hv with e1 e2 e3
          injection e1 with e1
          injection e1 with e1 _ _
          subst e1
          exact (Array.getElem?_eq_some_iff.1 hg).1
      have HTB := Lib.hid hTb
      clear hTc hTb hown
      go_wp2
      go_loopw [13, 14] (fun o a wr => ∃ (at_ : Nat) (outs : List Int), a = .int .i64 at_ ∧ at_ ≤ ws.length ∧ outs.length ≤ at_ ∧ wr.ownsRow (w.heap.size + 1) 3 1 o outs.length (outs.map (.int .i64)) ∧ Below w.heap.size w wr ∧ w.heap.size < wr.heap.size ∧
          Hid (∀ j, j < ws.length + 1 → wr.cell? ⟨w.heap.size, j * 2 + 1, none⟩ = some (.int .i64 ((Ln.best M (W.drop j)).2 : Nat))) ∧ Hid (outs ++ Ln.linesF M (W.drop at_) = Ln.linesF M W)) (fun _ a _ => ws.length - (intOf a).toNat)
      case atStart => exact ⟨0, [], rfl, Nat.zero_le _, Nat.zero_le _, World.ownsRow_nil _ _ _ _, hbel, hgs, HTB.out, rfl⟩
      case round =>
        obtain ⟨at_, outs, rfl, hat, hol, hown, hbel, hgs, HC, HE⟩ := hrel
        by_cases hlt : at_ < ws.length
        · have hne : W.drop at_ ≠ [] := by
            intro h
            have := List.drop_eq_nil_iff.1 h
            rw [HWL.out] at this
            omega
          have hbp := Ln.best_pos M (W.drop at_) hne
          rw [List.length_drop, HWL.out] at hbp
          have hcons := Ln.linesF_cons M (W.drop at_) hne
          rw [List.drop_drop] at hcons
          have hcell := HC.out at_ (by omega)
          have HCO := Lib.hid hcons
          have hbp1 := hbp.1
          have hbp2 := hbp.2
          clear hne hcons hbp
          generalize (Ln.best M (W.drop at_)).2 = fr at *
          go_wp2_with (at_builtin; refine wpList_app1 rfl (.tmp 102) (.tmp 108) 22 rfl (w.heap.size + 1) 3 i0 (.int .i64 0) 8 Try.underlying22 hi0 hz0 hz1 hz2 rfl _ _ _ (.int .i64 fr) rfl rfl rfl hown (by omega) (by simp only [maxLen]; omega) (by omega) ?_; intro v' w2 hown' hbel' _; have hcell2 := (hbel'.cell (p := ⟨w.heap.size, at_ * 2 + 1, none⟩) (Nat.lt_succ_self _)).trans hcell)
          go_roundw
          case rel =>
            refine ⟨at_ + fr, outs ++ [(fr : Int)], by go_num, by omega, by simp; omega, by simpa using hown', hbel.trans (hbel'.mono (by omega)), by have := hbel'.size; omega, fun j hj => (hbel'.cell (p := ⟨w.heap.size, j * 2 + 1, none⟩) (Nat.lt_succ_self _)).trans (HC.out j hj), ?_⟩
            show _ = _
            rw [← HE.out, HCO.out]; simp
          case measure => simp [intOf]; omega
        · have HT : Hid (Ln.linesF M W = outs) := by
            show _ = _
            rw [← HE.out, List.drop_of_length_le (by rw [HWL.out]; omega), Ln.linesF_nil]; simp
          clear HE
          go_wp2
          go_ret2
          exact ⟨_, rfl, by rw [HT.out]; exact ⟨hown.1, hown.2.imp id fun ⟨g, cap, cur, h1, h2, h3⟩ => ⟨g, cap, cur, h1, by omega, h3⟩⟩, hbel⟩
end Go.Proofs.Ytjebndjmckefbaa
