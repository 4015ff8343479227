/- The reference's Right. -/
import Derived.Test.YtkoegbjnhoecoaaGreatDoorH3
namespace Go.Proofs.YtkoegbjnhoecoaaGreatDoor
open Go.RowKit Tx

set_option maxHeartbeats 4000000 in
theorem rRight_any (v : Value) (l : List Wr.F) (w : World) (hr : RowC 2 ff w w.heap.size v l) (ok : ∀ f ∈ l, FOk f) :
    Calls Tryz.prog 34 #[v] w fun e w' => e = .returned (.bool (Wr.right l)) ∧ ∃ n, w' = w.drewN n := by
  obtain ⟨A, cap, rfl, h1, h2, h3⟩ := hr.shape
  have HC := Lib.hid h3
  have OK := Lib.hid ok
  clear h3 ok hr
  go_enter Tryz.func34, Tryz.ntmps34
  go_wp2_with fail
  go_loopw [3] (fun i wr => ∃ k m : Nat, k ≤ l.length ∧ i = .int .i64 k ∧ (∀ j < k, Wr.stepOk l j = true) ∧ wr = w.drewN m) (fun i _ => l.length - (RowKit.intOf i).toNat)
  case atStart => exact ⟨0, 0, Nat.zero_le _, rfl, fun j hj => absurd hj (Nat.not_lt_zero _), rfl⟩
  case round =>
    obtain ⟨k, m, hk, rfl, hst, rfl⟩ := hrel
    have HS := Lib.hid hst
    clear hst
    by_cases hlt : k < l.length
    · have hi : (k : Int) < (l.length : Int) := by omega
      obtain ⟨b, off, rfl, hbl, hc⟩ := HC.out (by rintro rfl; simp at hlt)
      obtain ⟨c0, c1⟩ := ff_cells (fun i u hu => hc k hlt i u hu)
      have HCC := Lib.hid hc
      clear hc
      have hok := OK.out _ (List.getElem_mem hlt)
      have hse := Wr.stepOk_at l k hlt
      have HSY := Lib.hid (step_yes l k hlt HS.out)
      have HNO := Lib.hid (Wr.right_no l k hlt)
      obtain ⟨f, hf⟩ : ∃ f, f = l[k] := ⟨_, rfl⟩
      rw [← hf] at hok hse c0 c1
      clear hf
      obtain ⟨n, t⟩ := f
      obtain ⟨ok1, ok2⟩ := hok
      simp only at ok1 ok2 c0 c1
      have hz1 := bs_size n
      have hz2 := bs_size t
      simp only [maxLen] at ok1 ok2
      have hfile : Wr.fileOk (n, t) = (Wr.nameOk n && decide (t.length ≤ 4000)) := rfl
      rw [hfile] at hse
      simp only at hse
      by_cases hn : Wr.nameOk n = true
      · rw [hn, Bool.true_and] at hse
        by_cases ht : t.length ≤ 4000
        · rw [decide_eq_true ht, Bool.true_and] at hse
          have ht' : decide ((4000 : Int) < ((bs t).size : Int)) = false := decide_eq_false (by omega)
          have ht2 : decide ((4000 : Int) < (t.length : Int)) = false := decide_eq_false (by omega)
          have ht3 : decide (4000 < t.length) = false := decide_eq_false (by omega)
          have ht4 : t.length ≤ 4000 := ht
          rcases Nat.eq_zero_or_pos k with hk0 | hk0
          · have HS2 := Lib.hid (HSY.out (by rw [hse, hk0]; rfl))
            clear hse
            subst hk0
            simp only [Nat.zero_mul, Nat.add_zero] at c0 c1
            go_wp2_with (go_at_call 50; refine (rName_b n _ (by simp only [maxLen]; omega) hn).mono ?_; rintro e w' ⟨rfl, rfl⟩)
            go_quiet (fail)
            go_wp2_with fail
            go_roundw
            case rel => exact ⟨1, _, by omega, rfl, HS2.out, by first | rfl | exact World.drewN_drewN _ _ _⟩
            case measure => simp [RowKit.intOf]; omega
          · obtain ⟨j, hj⟩ : ∃ j, k = j + 1 := ⟨k - 1, by omega⟩
            have hjl : j < l.length := by omega
            have hjb : Wr.befOk l k n = Wr.less l[j].1 n := by rw [hj]; exact Wr.befOk_at l j hjl n
            rw [hjb] at hse
            obtain ⟨d0, d1⟩ := ff_cells (fun i u hu => HCC.out j hjl i u hu)
            generalize l[j] = pf at *
            obtain ⟨pn, pt⟩ := pf
            simp only at d0 d1 hse
            have hkj : (k : Int) - 1 = (j : Int) := by omega
            have i0 : (0 : Int) ≤ (j : Int) := by omega
            have i1 : (j : Int) < (l.length : Int) := by omega
            have i2 : (0 : Int) < (k : Int) := by omega
            have hb0 : Op.bytesLess (bs pn).toList (bs n).toList = Wr.less pn n := by rw [toListB, toListB]
            have hwj : IntKind.i64.wrap ((k : Int) - 1) = (j : Int) := by rw [hkj]; exact IntWalk.i64_in _ (by omega)
            clear hjb hj
            by_cases hl : Wr.less pn n = true
            · rw [hl] at hb0 hse
              have HS2 := Lib.hid (HSY.out hse)
              clear hl hse
              go_wp2_with (go_at_call 50; refine (rName_b n _ (by simp only [maxLen]; omega) hn).mono ?_; rintro e w' ⟨rfl, rfl⟩)
              go_quiet (fail)
              go_wp2_with fail
              go_roundw
              case rel => exact ⟨k + 1, _, by omega, by go_num, HS2.out, by first | rfl | exact World.drewN_drewN _ _ _⟩
              case measure => simp [RowKit.intOf]; omega
            · have hl : Wr.less pn n = false := by simpa using hl
              rw [hl] at hb0 hse
              have HN2 := Lib.hid (HNO.out hse)
              clear hl hse
              go_wp2_with (go_at_call 50; refine (rName_b n _ (by simp only [maxLen]; omega) hn).mono ?_; rintro e w' ⟨rfl, rfl⟩)
              go_quiet (fail)
              go_wp2_with fail
              go_ret
              exact ⟨by rw [HN2.out]; rfl, _, by first | rfl | exact World.drewN_drewN _ _ _⟩
        · rw [decide_eq_false ht, Bool.false_and] at hse
          have HN2 := Lib.hid (HNO.out hse)
          have ht' : decide ((4000 : Int) < ((bs t).size : Int)) = true := decide_eq_true (by omega)
          have ht2 : decide ((4000 : Int) < (t.length : Int)) = true := decide_eq_true (by omega)
          have ht3 : decide (4000 < t.length) = true := decide_eq_true (by omega)
          clear hse
          go_wp2_with (go_at_call 50; refine (rName_b n _ (by simp only [maxLen]; omega) hn).mono ?_; rintro e w' ⟨rfl, rfl⟩)
          go_ret
          exact ⟨by rw [HN2.out]; rfl, _, by first | rfl | exact World.drewN_drewN _ _ _⟩
      · have hn : Wr.nameOk n = false := by simpa using hn
        rw [hn, Bool.false_and, Bool.false_and] at hse
        have HN2 := Lib.hid (HNO.out hse)
        clear hse
        go_wp2_with (go_at_call 50; refine (rName_b n _ (by simp only [maxLen]; omega) hn).mono ?_; rintro e w' ⟨rfl, rfl⟩)
        go_ret
        exact ⟨by rw [HN2.out]; rfl, _, by first | rfl | exact World.drewN_drewN _ _ _⟩
    · obtain rfl : k = l.length := by omega
      have HE := Lib.hid (Wr.right_end l HS.out)
      by_cases h32 : l.length ≤ 32
      · have HF : Hid (Wr.right l = true) := Lib.hid (by rw [HE.out]; exact decide_eq_true h32)
        have h4 : decide ((l.length : Int) ≤ 32) = true := decide_eq_true (by omega)
        go_wp2_with fail
        go_ret
        exact ⟨by rw [HF.out]; first | rfl | (simp; omega), _, rfl⟩
      · have HF : Hid (Wr.right l = false) := Lib.hid (by rw [HE.out]; exact decide_eq_false h32)
        have h4 : decide ((l.length : Int) ≤ 32) = false := decide_eq_false (by omega)
        go_wp2_with fail
        go_ret
        exact ⟨by rw [HF.out]; first | rfl | (simp; omega), _, rfl⟩
end Go.Proofs.YtkoegbjnhoecoaaGreatDoor
