/- The walk of fix.Of. -/
import Derived.Test.YtgckcffgkgfakaaRows
import Derived.Test.YtgckcffgkgfakaaKit
import Derived.Test.YtgckcffgkgfakaaMap
import Derived.Test.YtgckcffgkgfakaaFxPl
import Derived.Test.YtgckcffgkgfakaaFxW1
namespace Go.Proofs.Ytgckcffgkgfakaa
open Go.Maps Go.RowKit

namespace Fx
def fv (b1 b3 b4 b5 : Nat) : Value := .func (.func 23) #[] #[.pointer (some ⟨b5, 0, none⟩), .pointer (some ⟨b3, 0, none⟩), .pointer (some ⟨b4, 0, none⟩), .pointer (some ⟨b1, 0, none⟩)]
theorem res3 {w : World} {r : Nat} {t : TypeId} (h : w.heap[r]? = some (.cells #[.int .i64 0, .int .i64 0, .int .i64 0] t (0, 0))) :
    w.cell? ⟨r, 0, none⟩ = some (.int .i64 0) ∧ w.cell? ⟨r, 1, none⟩ = some (.int .i64 0) ∧ w.cell? ⟨r, 2, none⟩ = some (.int .i64 0) ∧ w.frozen? ⟨r, 0, none⟩ = false ∧ w.frozen? ⟨r, 1, none⟩ = false ∧ w.frozen? ⟨r, 2, none⟩ = false := by
  simp [World.cell?, World.frozen?, h]
theorem res3_set {w : World} {r : Nat} {t : TypeId} (h : w.heap[r]? = some (.cells #[.int .i64 0, .int .i64 0, .int .i64 0] t (0, 0))) (a b c : Value) :
    (((w.setCell ⟨r, 0, none⟩ a).setCell ⟨r, 1, none⟩ b).setCell ⟨r, 2, none⟩ c).heap[r]? = some (.cells #[a, b, c] t (0, 0)) :=
  cells_setCell (cells_setCell (cells_setCell h a) b) c
theorem res3_get {w : World} {r : Nat} {t : TypeId} {a b c : Value} (h : w.heap[r]? = some (.cells #[a, b, c] t (0, 0))) : w.cell? ⟨r, 0, none⟩ = some a ∧ w.cell? ⟨r, 1, none⟩ = some b ∧ w.cell? ⟨r, 2, none⟩ = some c := by
  simp [World.cell?, h]
theorem jv_wf {B : Int} {pre : List Int} {x : Int} (h : pre.length < 1000000) : (Lit.int .i64 (jv B pre x).1).wf = true ∧ (Lit.int .i64 (jv B pre x).2.1).wf = true ∧ (Lit.int .i64 (jv B pre x).2.2).wf = true := by
  unfold jv
  split
  · exact ⟨by simp; decide, WalkArith.wf_i64 (by simp; omega), by simp; decide⟩
  · split
    · rename_i i hi
      have := (fidx_some hi).1
      exact ⟨by simp; decide, WalkArith.wf_i64 (by simp; omega), WalkArith.wf_i64 (by simp; omega)⟩
    · split <;> exact ⟨by simp; decide, by simp; decide, by simp; decide⟩
end Fx
theorem take_any {base S : Nat} {B : Int} {pre : List Int} {b1 b3 b4 b5 : Nat} {w : World} (x : Int) (h : Fx.Jud w base S B pre (Fx.fv b1 b3 b4 b5)) (hB : base ≤ w.heap.size) (hx : (Lit.int .i64 x).wf = true) (hpl : pre.length < 1000000) :
    Calls Try.prog 23 #[.int .i64 x, .pointer (some ⟨b5, 0, none⟩), .pointer (some ⟨b3, 0, none⟩), .pointer (some ⟨b4, 0, none⟩), .pointer (some ⟨b1, 0, none⟩)] w fun e w' => e = .returned (Fx.ver (Fx.jv B pre x)) ∧ Below base w w' ∧ (∀ k, k < w.heap.size → S ≤ k → w'.heap[k]? = w.heap[k]?) ∧ ((Fx.jv B pre x).1 = 0 → Fx.Jud w' base S B (pre ++ [x]) (Fx.fv b1 b3 b4 b5)) := by
  obtain ⟨c1, c3, c4, c5, bm, last, e, h1, h3, h4, h5, hl, hm, hd⟩ := h
  simp only [Fx.fv, Value.func.injEq, Array.mk.injEq, List.cons.injEq, Value.pointer.injEq, Option.some.injEq, Addr.mk.injEq, and_true, true_and] at e
  obtain ⟨rfl, rfl, rfl, rfl⟩ := e
  exact judge1_any base S B pre x b1 b3 b4 b5 bm last w hB hx hpl h1 h3 h4 h5 hl hm hd

set_option maxHeartbeats 1000000 in
theorem fOf_any (l : List Int) (b : Int) (v : Value) (w : World) (hr : Ints w w.heap.size v l) (hl : l.length < 1000000) (hwf : ∀ x ∈ l, (Lit.int .i64 x).wf = true) :
    Calls Try.prog 13 #[v, .int .i64 b] w fun e w' => e = .returned (Fx.ver (Fx.ofF l b)) ∧ Below w.heap.size w w' := by
  obtain ⟨A, c, rfl, l1, m1, hA⟩ := hr.shape
  have HA := Lib.hid hA
  have HW := Lib.hid hwf
  clear hA hwf hr
  go_enter Try.func13, Try.ntmps13
  go_wp2_with fail
  refine (judge_any b _).mono ?_
  rintro e w1 ⟨f, rfl, hj, hb1, hS1⟩
  have hf : ∃ b1 b3 b4 b5, f = Fx.fv b1 b3 b4 b5 := by
    obtain ⟨c1, c3, c4, c5, bm, last, e, _⟩ := hj
    exact ⟨c1, c3, c4, c5, e⟩
  obtain ⟨b1, b3, b4, b5, rfl⟩ := hf
  have hres : w1.heap[w.heap.size]? = some (.cells #[.int .i64 0, .int .i64 0, .int .i64 0] 25 (0, 0)) := (hb1.block _ (by simp)).trans (heap_alloc_new w _)
  have hb1' : Below w.heap.size w w1 := ((Below.refl _ _).alloc (Nat.le_refl _) _).trans (hb1.mono (by simp))
  rw [World.size_alloc] at hj hb1
  have hs1 := hb1.size
  simp only [World.size_alloc] at hs1
  clear hb1
  simp only [Fx.fv]
  go_wp2_with fail
  go_loopw [13] (fun i wr => ∃ k : Nat, k ≤ l.length ∧ i = .int .i64 k ∧ Fx.Jud wr (w.heap.size + 1) (w.heap.size + 1 + 5) (max b 1) (l.take k) (Fx.fv b1 b3 b4 b5) ∧ Hid (Fx.ofF l b = Fx.go (max b 1) (l.take k) (l.drop k)) ∧ Below w.heap.size w wr ∧ w.heap.size + 1 ≤ wr.heap.size ∧ wr.heap[w.heap.size]? = some (.cells #[.int .i64 0, .int .i64 0, .int .i64 0] 25 (0, 0))) (fun i _ => l.length - (intOf i).toNat)
  case atStart => exact ⟨0, Nat.zero_le _, rfl, hj, rfl, hb1', hs1, hres⟩
  case round =>
    obtain ⟨k, hk, rfl, hjk, hof, hbk, hsk, hrk⟩ := hrel
    by_cases hlt : k < l.length
    · obtain ⟨bb, off, rfl, hbb, hc⟩ := HA.out (by rintro rfl; simp at hlt)
      have hcell := (hbk.cell (p := ⟨bb, off + k, none⟩) hbb).trans (hc k hlt)
      have hx := HW.out _ (List.getElem_mem hlt)
      have hi1 : (k : Int) < (l.length : Int) := by omega
      have HT : Hid (l.take (k + 1) = l.take k ++ [l[k]] ∧ l.drop k = l[k] :: l.drop (k + 1)) := ⟨List.take_succ_eq_append_getElem hlt, List.drop_eq_getElem_cons hlt⟩
      clear hc
      generalize l[k] = x at *
      go_wp2_with fail
      refine (take_any x hjk hsk hx (by simp; omega)).mono ?_
      rintro e w2 ⟨rfl, hb2, _, hj2⟩
      have hpl : (l.take k).length < 1000000 := by simp; omega
      have hrk2 := (hb2.block _ (by omega)).trans hrk
      have hs2 := hb2.size
      obtain ⟨⟨kd, vi, vj⟩, hv⟩ : ∃ v : Fx.V, Fx.jv (max b 1) (l.take k) x = v := ⟨_, rfl⟩
      have HV := Lib.hid hv
      rw [hv] at hj2 ⊢
      obtain ⟨y0, y1, y2, z0, z1, z2⟩ := Fx.res3 hrk2
      have hlt2 : w.heap.size < w2.heap.size := by omega
      simp only [Fx.ver]
      by_cases hkd : kd = 0
      · subst hkd
        clear hv
        go_wp2_with fail
        go_roundw
        case rel => exact ⟨k + 1, by omega, by go_num, by rw [HT.out.1]; exact (hj2 rfl).keep ((Below.refl _ _).alloc (Nat.le_refl _) _), by
            show _ = _
            rw [hof.out, HT.out.2, HT.out.1, Fx.go_step _ _ _ _ (by rw [HV.out])], (hbk.trans (hb2.mono (by omega))).alloc (by omega) _, by simp; omega, (Below.heap_alloc _ _ _ (by omega)).trans hrk2⟩
        case measure => simp [intOf]; omega
      · have hne : (kd != 0) = true := by simp [hkd]
        have hans : Hid (Fx.ofF l b = (kd, vi, vj)) := by
          show _ = _
          rw [hof.out, HT.out.2, Fx.go_stop _ _ _ _ (by rw [HV.out]; exact hkd), HV.out]
        clear hv
        go_wp2_with fail
        have r3 := Fx.res3_set hrk2 (.int .i64 kd) (.int .i64 vi) (.int .i64 vj)
        have r4 := (Below.heap_alloc _ (.cells #[.int .i64 kd, .int .i64 vi, .int .i64 vj] 25) _ (lt_of_block r3)).trans r3
        obtain ⟨u0, u1, u2⟩ := Fx.res3_get r4
        refine bodyPost_ret (v := .agg #[.int .i64 kd, .int .i64 vi, .int .i64 vj]) (by simp [results, Try.f13, go_sem, u0, u1, u2]) rfl ?_
        refine ⟨by rw [hans.out]; rfl, ?_⟩
        exact ((((hbk.trans (hb2.mono (by omega))).setCell (p := ⟨w.heap.size, 0, none⟩) (Nat.le_refl _) _).setCell (p := ⟨w.heap.size, 1, none⟩) (Nat.le_refl _) _).setCell (p := ⟨w.heap.size, 2, none⟩) (Nat.le_refl _) _).alloc (by simp; omega) _
    · obtain rfl : k = l.length := by omega
      have hans : Hid (Fx.ofF l b = (0, 0, 0)) := by
        show _ = _
        rw [hof.out, List.drop_length]; rfl
      obtain ⟨y0, y1, y2, z0, z1, z2⟩ := Fx.res3 hrk
      go_wp2_with fail
      have r3 := Fx.res3_set hrk (.int .i64 0) (.int .i64 0) (.int .i64 0)
      obtain ⟨u0, u1, u2⟩ := Fx.res3_get r3
      refine bodyPost_ret (v := .agg #[.int .i64 0, .int .i64 0, .int .i64 0]) (by simp [results, Try.f13, go_sem, u0, u1, u2]) rfl ?_
      refine ⟨by rw [hans.out]; rfl, ?_⟩
      exact ((hbk.setCell (p := ⟨w.heap.size, 0, none⟩) (Nat.le_refl _) _).setCell (p := ⟨w.heap.size, 1, none⟩) (Nat.le_refl _) _).setCell (p := ⟨w.heap.size, 2, none⟩) (Nat.le_refl _) _
end Go.Proofs.Ytgckcffgkgfakaa
