/- stetref02.Words: are two rows of texts the same? -/
import Derived.Test.YtjmmfihmamcopaaGreatDoorRows
import Derived.Test.YtjmmfihmamcopaaGreatDoorTxs
namespace Go.Proofs.YtjmmfihmamcopaaGreatDoor
open Go.RowKit Go.Lib Go.Sort Tx

set_option maxHeartbeats 1000000 in
theorem words2_any (v1 v2 : Value) (a b : List Bs) (w : World) (h1 : Row vs w w.heap.size v1 a) (h2 : Row vs w w.heap.size v2 b) (hn : a.length < 1000000) (hm : b.length < 1000000) :
    Calls Tryz.prog 20 #[v1, v2] w fun e w' => e = .returned (.bool (decide (a = b))) ∧ ∃ n, w' = w.drewN n := by
  obtain ⟨A1, c1, rfl, p1, p2, p3⟩ := h1.shape
  obtain ⟨A2, c2, rfl, q1, q2, q3⟩ := h2.shape
  have P3 := Lib.hid p3
  have Q3 := Lib.hid q3
  clear p3 q3 h1 h2
  by_cases hl : a.length = b.length
  · have hle : (a.length : Int) = (b.length : Int) := by omega
    have hne : ((a.length : Int) != (b.length : Int)) = false := by rw [hle]; simp
    have HL := Lib.hid hl
    clear hl hle
    go_enter Tryz.func20, Tryz.ntmps20
    go_wp2_with fail
    go_loopw [5] (fun i wr => ∃ k n : Nat, k ≤ a.length ∧ i = .int .i64 k ∧ a.take k = b.take k ∧ wr = w.drewN n) (fun i _ => a.length - (intOf i).toNat)
    case atStart => exact ⟨0, 0, Nat.zero_le _, rfl, rfl, rfl⟩
    case round =>
      obtain ⟨k, n, hk, rfl, htk, rfl⟩ := hrel
      have HT := Lib.hid htk
      clear htk
      by_cases hlt : k < a.length
      · have hltb : k < b.length := by rw [← HL.out]; exact hlt
        obtain ⟨g1, o1, rfl, hg1, hc1⟩ := P3.out (by rintro rfl; simp at hlt)
        obtain ⟨g2, o2, rfl, hg2, hc2⟩ := Q3.out (by rintro rfl; simp at hltb)
        have k1 := hc1 k hlt
        have k2 := hc2 k hltb
        have i1 : (k : Int) < (a.length : Int) := by omega
        have i2 : (k : Int) < (b.length : Int) := by omega
        have i3 : (0 : Int) ≤ (k : Int) := by omega
        have HA : Hid (a.take (k + 1) = a.take k ++ [a[k]]) := Lib.hid (List.take_succ_eq_append_getElem hlt)
        have HB : Hid (b.take (k + 1) = b.take k ++ [b[k]]) := Lib.hid (List.take_succ_eq_append_getElem hltb)
        have HAX : Hid (a[k]? = some a[k]) := Lib.hid (List.getElem?_eq_getElem hlt)
        have HBX : Hid (b[k]? = some b[k]) := Lib.hid (List.getElem?_eq_getElem hltb)
        clear hc1 hc2
        generalize a[k] = x at *
        generalize b[k] = y at *
        by_cases hxy : x = y
        · subst hxy
          go_wp2_with fail
          go_quiet (fail)
          go_wp2_with fail
          go_roundw
          case rel => exact ⟨k + 1, _, by omega, by go_num, by rw [HA.out, HB.out, HT.out], by first | rfl | exact World.drewN_drewN _ _ _⟩
          case measure => simp [intOf]; omega
        · have e1 : ((bs x).toList == (bs y).toList) = false := by rw [toList_bs, toList_bs]; simpa using hxy
          have e2 : ((bs x).toList != (bs y).toList) = true := by rw [bne, e1]; rfl
          have HNE : Hid (decide (a = b) = false) := by
            show _ = _
            rw [decide_eq_false_iff_not]
            rintro rfl
            have := HAX.out
            rw [HBX.out] at this
            injection this with this
            exact hxy this.symm
          clear hxy
          go_wp2_with fail
          go_quiet (fail)
          go_wp2_with fail
          go_ret
          exact ⟨ret_bool HNE.out.symm, _, by first | rfl | exact World.drewN_drewN _ _ _⟩
      · obtain rfl : k = a.length := by omega
        have HE : Hid (decide (a = b) = true) := by
          show _ = _
          have h := HT.out
          rw [List.take_length, List.take_of_length_le (by rw [HL.out]; exact Nat.le_refl _)] at h
          exact decide_eq_true h
        go_wp2_with fail
        go_ret
        exact ⟨ret_bool HE.out.symm, n, rfl⟩
  · have hne : ((a.length : Int) != (b.length : Int)) = true := by simp; omega
    have HE : Hid (decide (a = b) = false) := by
      show _ = _
      rw [decide_eq_false_iff_not]
      rintro rfl
      exact hl rfl
    clear hl
    go_enter Tryz.func20, Tryz.ntmps20
    go_wp2_with fail
    go_ret
    exact ⟨ret_bool HE.out.symm, 0, rfl⟩
end Go.Proofs.YtjmmfihmamcopaaGreatDoor
