/- The walk of stetref23.Of. -/
import Derived.Test.YtgckcffgkgfakaaRows
import Derived.Test.YtgckcffgkgfakaaKit
import Derived.Test.YtgckcffgkgfakaaFxPl
import Derived.Test.YtgckcffgkgfakaaFxW1
import Derived.Test.YtgckcffgkgfakaaFxOf
namespace Go.Proofs.Ytgckcffgkgfakaa
open Go.RowKit

namespace Fx
theorem jv_conv (B : Int) (l : List Int) (j : Nat) (hj0 : 0 < j) (hj : j < l.length) (h : l[j] = l[j - 1]) : jv B (l.take j) l[j] = (1, (j : Int) - 1, 0) := by
  unfold jv
  have hl : (l.take j).length = j := by simp; omega
  rw [if_pos, hl]
  refine ⟨by omega, ?_⟩
  rw [h, List.getLastD_eq_getLast?, List.getLast?_eq_getElem?, hl, List.getElem?_take, if_pos (by omega), List.getElem?_eq_getElem (by omega), Option.getD_some]
theorem not_conv (l : List Int) (j : Nat) (hj0 : 0 < j) (hj : j < l.length) (h : l[j] ≠ l[j - 1]) : ¬ (0 < (l.take j).length ∧ (l.take j).getLastD 0 = l[j]) := by
  have hl : (l.take j).length = j := by simp; omega
  rintro ⟨_, h2⟩
  rw [List.getLastD_eq_getLast?, List.getLast?_eq_getElem?, hl, List.getElem?_take, if_pos (by omega), List.getElem?_eq_getElem (by omega), Option.getD_some] at h2
  exact h h2.symm
theorem jv_osc (B : Int) (l : List Int) (j i : Nat) (hj0 : 0 < j) (hj : j < l.length) (h : l[j] ≠ l[j - 1]) (hi : i < j) (he : l[i] = l[j]) (hn : ∀ k (hk : k < i), l[k] ≠ l[j]) : jv B (l.take j) l[j] = (2, (i : Int), (j : Int)) := by
  have hl : (l.take j).length = j := by simp; omega
  have hf : fidx (l.take j) l[j] = some i := by
    have := fidx_at (l := l.take j) i (by rw [hl]; exact hi) (fun k hk => by
      rw [List.getElem_take, List.getElem_take, he]
      exact hn k hk)
    rwa [List.getElem_take, he] at this
  unfold jv
  rw [if_neg (not_conv l j hj0 hj h), hf, hl]
theorem jv_rest (B : Int) (l : List Int) (j : Nat) (hj0 : 0 < j) (hj : j < l.length) (h : l[j] ≠ l[j - 1]) (hn : ∀ k (hk : k < j), l[k] ≠ l[j]) : jv B (l.take j) l[j] = if B ≤ j then (3, 0, 0) else (0, 0, 0) := by
  have hl : (l.take j).length = j := by simp; omega
  have hf : fidx (l.take j) l[j] = none := by
    rw [fidx_none]
    intro hm
    obtain ⟨k, hk, he⟩ := List.getElem_of_mem hm
    rw [List.getElem_take] at he
    exact hn k (by omega) he
  unfold jv
  rw [if_neg (not_conv l j hj0 hj h), hf, hl]
end Fx

set_option maxHeartbeats 2000000 in
theorem rOf_any (l : List Int) (b : Int) (v : Value) (w : World) (hr : Ints w w.heap.size v l) (hl : l.length < 1000000) (hb : (Lit.int .i64 b).wf = true) :
    Calls Try.prog 14 #[v, .int .i64 b] w fun e w' => e = .returned (Fx.ver (Fx.ofF l b)) ∧ Below w.heap.size w w' := by
  have hr2 := hr.alloc (Nat.le_refl _) (.cells #[.int .i64 0, .int .i64 0, .int .i64 0] 29)
  obtain ⟨A, c, rfl, l1, m1, hA⟩ := hr2.shape
  have HA := Lib.hid hA
  have hres := heap_alloc_new w (.cells #[.int .i64 0, .int .i64 0, .int .i64 0] 29)
  have hbw : Below w.heap.size w (w.alloc (.cells #[.int .i64 0, .int .i64 0, .int .i64 0] 29)) := (Below.refl _ _).alloc (Nat.le_refl _) _
  have hsz : (w.alloc (.cells #[.int .i64 0, .int .i64 0, .int .i64 0] 29)).heap.size = w.heap.size + 1 := by simp
  obtain ⟨Bn, hBn⟩ : ∃ Bn : Nat, (Bn : Int) = max b 1 := ⟨(max b 1).toNat, by omega⟩
  have hBb := bounds_i64 hb
  have hB1 : 1 ≤ Bn := by omega
  have HB := Lib.hid hBn
  have hmaxx : (if (1 : Int) < b then b else 1) = (Bn : Int) := by rw [hBn]; split <;> omega
  clear hA hr hr2
  go_enter Try.func14, Try.ntmps14
  generalize hW : w.alloc (.cells #[.int .i64 0, .int .i64 0, .int .i64 0] 29) = W at *
  go_upto_region 1 with fail
  go_cut [5] (fun x wx => x = .int .i64 (Bn : Int) ∧ W = wx)
  case first =>
    go_wp2
    all_goals go_meet
    all_goals exact ⟨by congr 1; omega, rfl⟩
  case rest =>
    obtain ⟨rfl, rfl⟩ := hcut
    go_wp2
    go_loopw [6] (fun i wr => ∃ j n : Nat, i = .int .i64 j ∧ wr = W.drewN n ∧ 1 ≤ j ∧ ((l.length = 0 ∧ j = 1) ∨ (j ≤ Bn ∧ j ≤ l.length ∧ Hid (Fx.ofF l b = Fx.go (max b 1) (l.take j) (l.drop j))) ∨ (j = Bn + 1 ∧ Bn < l.length ∧ Hid (Fx.ofF l b = (3, 0, 0))))) (fun i _ => l.length + 2 - (intOf i).toNat)
    case atStart =>
      refine ⟨1, 0, rfl, rfl, Nat.le_refl _, ?_⟩
      by_cases h0 : l.length = 0
      · exact .inl ⟨h0, rfl⟩
      · refine .inr (.inl ⟨hB1, by omega, ?_⟩)
        show _ = _
        obtain ⟨x, xs, rfl⟩ : ∃ x xs, l = x :: xs := by
          cases l with
          | nil => simp at h0
          | cons x xs => exact ⟨x, xs, rfl⟩
        have hj : Fx.jv (max b 1) [] x = (0, 0, 0) := by
          unfold Fx.jv
          rw [if_neg (by simp)]
          simp [Fx.fidx]
          omega
        unfold Fx.ofF
        rw [Fx.go_step _ _ _ _ (by rw [hj])]
        rfl
    case round =>
      obtain ⟨j, n, rfl, rfl, hj1, hcase⟩ := hrel
      obtain ⟨y0, y1, y2, z0, z1, z2⟩ := Fx.res3 hres
      by_cases hlt : j < l.length ∧ j ≤ Bn
      · obtain ⟨hjl, hjB⟩ := hlt
        have hof : Hid (Fx.ofF l b = Fx.go (max b 1) (l.take j) (l.drop j)) := by
          rcases hcase with h | h | h
          · omega
          · exact h.2.2
          · omega
        obtain ⟨bb, off, rfl, hbb, hc⟩ := HA.out (by rintro rfl; simp at hjl)
        have hc1 : W.cell? ⟨bb, off + j, none⟩ = some (.int .i64 l[j]) := hc j hjl
        have hc2 : W.cell? ⟨bb, off + (j - 1), none⟩ = some (.int .i64 l[j - 1]) := hc (j - 1) (by omega)
        have HCC := Lib.hid hc
        have hi0 : (0 : Int) ≤ (j : Int) := by omega
        have hi1 : (j : Int) < (l.length : Int) := by omega
        have hi2 : (j : Int) ≤ (Bn : Int) := by omega
        have hi3 : ((j : Int) - 1) = ((j - 1 : Nat) : Int) := by omega
        have hi4 : ((j - 1 : Nat) : Int) < (l.length : Int) := by omega
        have hj0 : 0 < j := hj1
        clear hc hcase
        by_cases he : l[j] = l[j - 1]
        · have hv : Hid (Fx.ofF l b = (1, (j : Int) - 1, 0)) := by
            show _ = _
            have h1 := Fx.jv_conv (max b 1) l j hj0 hjl he
            rw [hof.out, List.drop_eq_getElem_cons hjl, Fx.go_stop _ _ _ _ (by rw [h1]; simp), h1]
          have hbe : (l[j] == l[j - 1]) = true := by simp [he]
          rw [he] at hc1
          have hbe2 : (l[j - 1] == l[j - 1]) = true := by simp
          clear he hbe hof
          generalize l[j - 1] = x at *
          go_wp2
          go_quiet (fail)
          go_wp2
          have r3 := Fx.res3_set (w := W.drewN (n + nq)) (show (W.drewN (n + nq)).heap[w.heap.size]? = _ from hres) (.int .i64 1) (.int .i64 ((j - 1 : Nat) : Int)) (.int .i64 0)
          obtain ⟨u0, u1, u2⟩ := Fx.res3_get r3
          refine bodyPost_ret (v := .agg #[.int .i64 1, .int .i64 ((j - 1 : Nat) : Int), .int .i64 0]) (by simp [results, Try.f14, go_sem, u0, u1, u2]) rfl ?_
          refine ⟨by rw [hv.out, hi3]; rfl, ?_⟩
          exact (((below_drewN hbw (n + nq)).setCell (p := ⟨w.heap.size, 0, none⟩) (Nat.le_refl _) _).setCell (p := ⟨w.heap.size, 1, none⟩) (Nat.le_refl _) _).setCell (p := ⟨w.heap.size, 2, none⟩) (Nat.le_refl _) _
        · have hbe : (l[j] == l[j - 1]) = false := by simp [he]
          have HE := Lib.hid he
          have hnoj := Lib.hid (fun (hn : ∀ k (hk : k < j), l[k] ≠ l[j]) => Fx.jv_rest (max b 1) l j hj0 hjl he hn)
          have hosc := Lib.hid (fun i (hi : i < j) (h1 : l[i] = l[j]) (hn : ∀ k (hk : k < i), l[k] ≠ l[j]) => Fx.jv_osc (max b 1) l j i hj0 hjl he hi h1 hn)
          have HD := Lib.hid (And.intro (List.drop_eq_getElem_cons hjl) (List.take_succ_eq_append_getElem hjl))
          have hstep : Hid ((∀ k (hk : k < j), l[k] ≠ l[j]) → (j + 1 ≤ Bn ∧ j + 1 ≤ l.length ∧ Hid (Fx.ofF l b = Fx.go (max b 1) (l.take (j + 1)) (l.drop (j + 1)))) ∨ (j + 1 = Bn + 1 ∧ Bn < l.length ∧ Hid (Fx.ofF l b = (3, 0, 0)))) := by
            intro hn
            have h1 := hnoj.out hn
            by_cases hB : max b 1 ≤ (j : Int)
            · rw [if_pos hB] at h1
              refine .inr ⟨by omega, by omega, ?_⟩
              show _ = _
              rw [hof.out, HD.out.1, Fx.go_stop _ _ _ _ (by rw [h1]; simp), h1]
            · rw [if_neg hB] at h1
              refine .inl ⟨by omega, by omega, ?_⟩
              show _ = _
              rw [hof.out, HD.out.1, Fx.go_step _ _ _ _ (by rw [h1]), HD.out.2]
          have hov : Hid (∀ i (hi : i < j) (h1 : l[i] = l[j]) (hn : ∀ k (hk : k < i), l[k] ≠ l[j]), Fx.ofF l b = (2, (i : Int), (j : Int))) := by
            intro i hi h1 hn
            have h2 := hosc.out i hi h1 hn
            rw [hof.out, HD.out.1, Fx.go_stop _ _ _ _ (by rw [h2]; simp), h2]
          clear he hof hnoj hosc HD
          generalize hxj : l[j] = xj at *
          generalize l[j - 1] = xp at *
          go_wp2
          go_quiet (fail)
          go_wp2
          go_loopw [7] (fun i wr => ∃ i' n' : Nat, i = .int .i64 i' ∧ wr = W.drewN n' ∧ i' ≤ j ∧ Hid (∀ k (hk : k < i') (hkl : k < l.length), l[k] ≠ xj)) (fun i _ => j - (intOf i).toNat)
          case atStart => exact ⟨0, n + nq, rfl, World.drewN_drewN _ _ _, Nat.zero_le _, fun k hk => by omega⟩
          case round =>
            obtain ⟨i, n2, rfl, rfl, hij, hno⟩ := hrel
            by_cases hil : i < j
            · have hil' : (i : Int) < (j : Int) := by omega
              have hil2 : (i : Int) < (l.length : Int) := by omega
              have hi00 : (0 : Int) ≤ (i : Int) := by omega
              have hill : i < l.length := by omega
              have d1 : W.cell? ⟨bb, off + i, none⟩ = some (.int .i64 l[i]) := HCC.out i (by omega)
              have d2 : W.cell? ⟨bb, off + j, none⟩ = some (.int .i64 xj) := by rw [← hxj]; exact HCC.out j hjl
              have hq : Hid (∀ (h : l[i] = xj), Fx.ofF l b = (2, (i : Int), (j : Int))) := fun h => hov.out i hil h (fun k hk => hno.out k hk (by omega))
              have hnx : Hid (l[i] ≠ xj → ∀ k (hk : k < i + 1) (hkl : k < l.length), l[k] ≠ xj) := by
                intro hne k hk hkl
                by_cases hki : k = i
                · subst hki; exact hne
                · exact hno.out k (by omega) hkl
              generalize l[i] = xi at *
              by_cases hx : xi = xj
              · have hbx : (xi == xj) = true := by simp [hx]
                have hans := Lib.hid (hq.out hx)
                subst hx
                go_wp2
                go_quiet (fail)
                go_wp2
                have r3 := Fx.res3_set (w := W.drewN (n2 + nq)) (show (W.drewN (n2 + nq)).heap[w.heap.size]? = _ from hres) (.int .i64 2) (.int .i64 (i : Int)) (.int .i64 (j : Int))
                obtain ⟨u0, u1, u2⟩ := Fx.res3_get r3
                refine bodyPost_ret (v := .agg #[.int .i64 2, .int .i64 (i : Int), .int .i64 (j : Int)]) (by simp [results, Try.f14, go_sem, u0, u1, u2]) rfl ?_
                refine ⟨by rw [hans.out]; rfl, ?_⟩
                exact (((below_drewN hbw (n2 + nq)).setCell (p := ⟨w.heap.size, 0, none⟩) (Nat.le_refl _) _).setCell (p := ⟨w.heap.size, 1, none⟩) (Nat.le_refl _) _).setCell (p := ⟨w.heap.size, 2, none⟩) (Nat.le_refl _) _
              · have hbx : (xi == xj) = false := by simp [hx]
                have hnx2 := Lib.hid (hnx.out hx)
                clear hx
                go_wp2
                go_quiet (fail)
                go_wp2
                go_roundw
                case rel => exact ⟨i + 1, n2 + nq, by go_num, by first | rfl | exact World.drewN_drewN _ _ _, by omega, hnx2⟩
                case measure => simp [intOf]; omega
            · obtain rfl : i = j := by omega
              go_wp2
              go_roundw
              case rel => exact ⟨i + 1, n2, by go_num, rfl, by omega, .inr (hstep.out (fun k hk => hno.out k hk (by omega)))⟩
              case measure => simp [intOf]; omega
      · have hans : Hid (Fx.ofF l b = if (Bn : Int) < (l.length : Int) then (3, 0, 0) else (0, 0, 0)) := by
          show _ = _
          rcases hcase with h | h | h
          · rw [if_neg (by omega), List.eq_nil_of_length_eq_zero h.1]; rfl
          · rw [if_neg (by omega), h.2.2.out, List.drop_of_length_le (by omega)]; rfl
          · rw [if_pos (by omega), h.2.2.out]
        have hx : ¬ ((j : Int) < (l.length : Int) ∧ (j : Int) ≤ (Bn : Int)) := by omega
        clear hcase
        by_cases hB : (Bn : Int) < (l.length : Int)
        · rw [if_pos hB] at hans
          by_cases hjl : (j : Int) < (l.length : Int)
          all_goals
            go_wp2
            all_goals first | (exfalso; omega) | skip
            have r3 := Fx.res3_set (w := W.drewN n) (show (W.drewN n).heap[w.heap.size]? = _ from hres) (.int .i64 3) (.int .i64 0) (.int .i64 0)
            obtain ⟨u0, u1, u2⟩ := Fx.res3_get r3
            refine bodyPost_ret (v := .agg #[.int .i64 3, .int .i64 0, .int .i64 0]) (by simp [results, Try.f14, go_sem, u0, u1, u2]) rfl ?_
            refine ⟨by rw [hans.out]; rfl, ?_⟩
            exact (((below_drewN hbw n).setCell (p := ⟨w.heap.size, 0, none⟩) (Nat.le_refl _) _).setCell (p := ⟨w.heap.size, 1, none⟩) (Nat.le_refl _) _).setCell (p := ⟨w.heap.size, 2, none⟩) (Nat.le_refl _) _
        · rw [if_neg hB] at hans
          have hjl : ¬ (j : Int) < (l.length : Int) := by omega
          clear hx
          all_goals
            go_wp2
            have r3 := Fx.res3_set (w := W.drewN n) (show (W.drewN n).heap[w.heap.size]? = _ from hres) (.int .i64 0) (.int .i64 0) (.int .i64 0)
            obtain ⟨u0, u1, u2⟩ := Fx.res3_get r3
            refine bodyPost_ret (v := .agg #[.int .i64 0, .int .i64 0, .int .i64 0]) (by simp [results, Try.f14, go_sem, u0, u1, u2]) rfl ?_
            refine ⟨by rw [hans.out]; rfl, ?_⟩
            exact (((below_drewN hbw n).setCell (p := ⟨w.heap.size, 0, none⟩) (Nat.le_refl _) _).setCell (p := ⟨w.heap.size, 1, none⟩) (Nat.le_refl _) _).setCell (p := ⟨w.heap.size, 2, none⟩) (Nat.le_refl _) _
end Go.Proofs.Ytgckcffgkgfakaa
