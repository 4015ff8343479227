/- The walk of stetref11.Ints. -/
import Derived.Test.YtjmmfihmamcopaaGreatDoorRows
import Derived.Test.YtjmmfihmamcopaaGreatDoorKit
namespace Go.Proofs.YtjmmfihmamcopaaGreatDoor
open Go.RowKit

theorem take_succ_eq {α : Type} {ps qs : List α} {k : Nat} (h1 : k < ps.length) (h2 : k < qs.length) (h : ps.take k = qs.take k) (he : ps[k] = qs[k]) : ps.take (k + 1) = qs.take (k + 1) := by
  rw [List.take_succ_eq_append_getElem h1, List.take_succ_eq_append_getElem h2, h, he]

set_option maxHeartbeats 400000 in
theorem rInts_any (ps qs : List Int) (v1 v2 : Value) (B1 B2 : Nat) (w : World) (h1 : Ints w B1 v1 ps) (h2 : Ints w B2 v2 qs) :
    Calls Tryz.prog 19 #[v1, v2] w fun e w' => e = .returned (.bool (decide (ps = qs))) ∧ ∃ n, w' = w.drewN n := by
  obtain ⟨A1, c1, rfl, l1, m1, hA1⟩ := h1.shape
  obtain ⟨A2, c2, rfl, l2, m2, hA2⟩ := h2.shape
  clear h1 h2
  by_cases hl : ps.length = qs.length
  · have hl' : ((ps.length : Int) != (qs.length : Int)) = false := by simp [hl]
    by_cases hn : ps = []
    · subst hn
      have hb : qs = [] := List.eq_nil_of_length_eq_zero (by simpa using hl.symm)
      subst hb
      clear hl hl' hA1 hA2
      go_enter Tryz.func19, Tryz.ntmps19
      go_wp2
      go_rounds 1
      go_ret
      exact ⟨rfl, 0, rfl⟩
    · have hb : qs ≠ [] := by
        rintro rfl
        exact hn (List.eq_nil_of_length_eq_zero (by simpa using hl))
      obtain ⟨b1, o1, rfl, _, hc1⟩ := hA1 hn
      obtain ⟨b2, o2, rfl, _, hc2⟩ := hA2 hb
      have HL := Lib.hid hl
      have HC1 := Lib.hid hc1
      have HC2 := Lib.hid hc2
      clear hl hc1 hc2 hA1 hA2
      go_enter Tryz.func19, Tryz.ntmps19
      go_wp2
      go_loopw [5] (fun i wr => ∃ k : Nat, k ≤ ps.length ∧ i = .int .i64 k ∧ Hid (ps.take k = qs.take k) ∧ ∃ n, wr = w.drewN n) (fun i _ => ps.length - (intOf i).toNat)
      case atStart => exact ⟨0, Nat.zero_le _, rfl, rfl, 0, rfl⟩
      case round =>
        obtain ⟨k, hk, rfl, HE, n, rfl⟩ := hrel
        by_cases hlt : k < ps.length
        · have hlt2 : k < qs.length := by have := HL.out; omega
          have hk1 := HC1.out k hlt
          have hk2 := HC2.out k hlt2
          by_cases he : ps[k] = qs[k]
          · have HT : Hid (ps.take (k + 1) = qs.take (k + 1)) := take_succ_eq hlt hlt2 HE.out he
            rw [← he] at hk2
            have hb1 : (0 : Int) ≤ (k : Int) := by omega
            have hb2 : (k : Int) < (ps.length : Int) := by omega
            have hb3 : (k : Int) < (qs.length : Int) := by omega
            have hne : (ps[k] != ps[k]) = false := by simp
            clear he HE
            generalize ps[k] = z at *
            go_wp2
            go_quiet (fail)
            go_wp2
            go_roundw
            case rel => exact ⟨k + 1, by omega, by go_num, HT, by first | exact drewN_ex1 _ _ | exact drewN_ex2 _ _ _⟩
            case measure => simp [intOf]; omega
          · have HF : Hid (decide (ps = qs) = false) := by
              simp only [Hid, decide_eq_false_iff_not]
              rintro rfl
              exact he rfl
            have hb1 : (0 : Int) ≤ (k : Int) := by omega
            have hb2 : (k : Int) < (ps.length : Int) := by omega
            have hb3 : (k : Int) < (qs.length : Int) := by omega
            have hne : (ps[k] != qs[k]) = true := by simp [he]
            clear he HE
            generalize ps[k] = z at *
            generalize qs[k] = z2 at *
            go_wp2
            go_quiet (fail)
            go_wp2
            go_ret
            exact ⟨ret_bool HF.out.symm, by first | exact drewN_ex1 _ _ | exact drewN_ex2 _ _ _⟩
        · have HT : Hid (decide (ps = qs) = true) := by
            have := HE.out
            rw [List.take_of_length_le (by omega), List.take_of_length_le (by have := HL.out; omega)] at this
            simp [Hid, this]
          clear HE
          go_wp2
          go_ret
          exact ⟨ret_bool HT.out.symm, _, rfl⟩
  · have hl' : ((ps.length : Int) != (qs.length : Int)) = true := by simp; omega
    have HF : Hid (decide (ps = qs) = false) := by
      simp only [Hid, decide_eq_false_iff_not]
      rintro rfl
      exact hl rfl
    clear hl hA1 hA2
    go_enter Tryz.func19, Tryz.ntmps19
    go_wp2
    go_ret
    exact ⟨ret_bool HF.out.symm, 0, rfl⟩

theorem rInts_yes (ps : List Int) (v1 v2 : Value) (B1 B2 : Nat) (w : World) (h1 : Ints w B1 v1 ps) (h2 : Ints w B2 v2 ps) :
    Calls Tryz.prog 19 #[v1, v2] w fun e w' => e = .returned (.bool true) ∧ ∃ n, w' = w.drewN n :=
  (rInts_any ps ps v1 v2 B1 B2 w h1 h2).mono fun _ _ ⟨h3, h4⟩ => ⟨by simpa using h3, h4⟩
theorem rInts_below (ps : List Int) (v1 v2 : Value) (B1 B2 : Nat) (w : World) (h1 : Ints w B1 v1 ps) (h2 : Ints w B2 v2 ps) :
    Calls Tryz.prog 19 #[v1, v2] w fun e w' => e = .returned (.bool true) ∧ Below w.heap.size w w' :=
  (rInts_yes ps v1 v2 B1 B2 w h1 h2).mono fun _ _ ⟨h3, n, h4⟩ => ⟨h3, h4 ▸ below_of_drewN n⟩
end Go.Proofs.YtjmmfihmamcopaaGreatDoor
