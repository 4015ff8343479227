/- Rows of files; files.Right and the reference's Right. -/
import Derived.Test.YtmgfbmkfgbildaaDoorWrN
import Derived.Test.YtmgfbmkfgbildaaDoorOwnC
import Derived.IntWalk
import Derived.Lib.SlBytesConst
namespace Go.Proofs.YtmgfbmkfgbildaaDoor
open Go.RowKit Tx

abbrev ff (f : Wr.F) : List Value := [vs f.1, vs f.2]
theorem ff_length (f : Wr.F) : (ff f).length = 2 := rfl
theorem ff_cells {w : World} {b o : Nat} {f : Wr.F} (h : ∀ i u, (ff f)[i]? = some u → w.cell? ⟨b, o + i, none⟩ = some u) : w.cell? ⟨b, o, none⟩ = some (.string (bs f.1)) ∧ w.cell? ⟨b, o + 1, none⟩ = some (.string (bs f.2)) :=
  ⟨h 0 _ rfl, h 1 _ rfl⟩
instance : Inhabited Wr.F := ⟨([], [])⟩
/-- Texts at all. -/
def FOk (f : Wr.F) : Prop := f.1.length ≤ maxLen ∧ f.2.length ≤ maxLen
theorem toListB (l : Bs) : (bs l).toList = l := by rw [ByteArray.toList_eq]; exact bs_list l
theorem step_yes (l : List Wr.F) (k : Nat) (h : k < l.length) (h1 : ∀ j < k, Wr.stepOk l j = true) (h2 : Wr.stepOk l k = true) : ∀ j < k + 1, Wr.stepOk l j = true := by
  intro j hj
  by_cases hjk : j = k
  · rw [hjk]; exact h2
  · exact h1 j (by omega)

theorem fName_b {b : Bool} (s : Bs) (w : World) (hs : s.length ≤ maxLen) (h : Wr.nameOk s = b) : Calls Tryd.prog 36 #[vs s] w fun e w' => e = .returned (.bool b) ∧ w = w' := by
  subst h
  exact fName_any s w hs
theorem rName_b {b : Bool} (s : Bs) (w : World) (hs : s.length ≤ maxLen) (h : Wr.nameOk s = b) : Calls Tryd.prog 37 #[vs s] w fun e w' => e = .returned (.bool b) ∧ w = w' := by
  subst h
  exact rName_any s w hs
set_option maxHeartbeats 4000000 in
theorem fRight_any (v : Value) (l : List Wr.F) (w : World) (hr : RowC 2 ff w w.heap.size v l) (ok : ∀ f ∈ l, FOk f) :
    Calls Tryd.prog 26 #[v] w fun e w' => e = .returned (.bool (Wr.right l)) ∧ Below w.heap.size w w' := by
  obtain ⟨A, cap, rfl, h1, h2, h3⟩ := hr.shape
  have HC := Lib.hid h3
  have OK := Lib.hid ok
  clear h3 ok hr
  go_enter Tryd.func26, Tryd.ntmps26
  go_wp2_with fail
  go_loopw [7] (fun i wr => ∃ k : Nat, k ≤ l.length ∧ i = .int .i64 k ∧ (∀ j < k, Wr.stepOk l j = true) ∧ Below w.heap.size w wr) (fun i _ => l.length - (RowKit.intOf i).toNat)
  case atStart => exact ⟨0, Nat.zero_le _, rfl, fun j hj => absurd hj (Nat.not_lt_zero _), Below.refl _ _⟩
  case round =>
    obtain ⟨k, hk, rfl, hst, hbel⟩ := hrel
    have HS := Lib.hid hst
    clear hst
    have hle := hbel.size
    by_cases hlt : k < l.length
    · have hi : (k : Int) < (l.length : Int) := by omega
      obtain ⟨b, off, rfl, hbl, hc⟩ := HC.out (by rintro rfl; simp at hlt)
      obtain ⟨c0, c1⟩ := ff_cells (fun i u hu => (hbel.cell (p := ⟨b, off + k * 2 + i, none⟩) hbl).trans (hc k hlt i u hu))
      have hok := OK.out _ (List.getElem_mem hlt)
      have hse := Wr.stepOk_at l k hlt
      have HSY := Lib.hid (step_yes l k hlt HS.out)
      have HNO := Lib.hid (Wr.right_no l k hlt)
      obtain ⟨f, hf⟩ : ∃ f, f = l[k] := ⟨_, rfl⟩
      rw [← hf] at hok hse c0 c1
      clear hf
      obtain ⟨n, t⟩ := f
      obtain ⟨ok1, ok2⟩ := hok
      simp only at ok1 ok2 c0 c1
      have hz1 := bs_size n
      have hz2 := bs_size t
      simp only [maxLen] at ok1 ok2
      have hfile : Wr.fileOk (n, t) = (Wr.nameOk n && decide (t.length ≤ 4000)) := rfl
      rw [hfile] at hse
      simp only at hse
      by_cases hn : Wr.nameOk n = true
      · rw [hn, Bool.true_and] at hse
        by_cases ht : t.length ≤ 4000
        · rw [decide_eq_true ht, Bool.true_and] at hse
          have ht' : decide ((4000 : Int) < ((bs t).size : Int)) = false := decide_eq_false (by omega)
          have ht2 : decide ((4000 : Int) < (t.length : Int)) = false := decide_eq_false (by omega)
          have ht3 : decide (4000 < t.length) = false := decide_eq_false (by omega)
          have ht4 : t.length ≤ 4000 := ht
          rcases Nat.eq_zero_or_pos k with hk0 | hk0
          · have HS2 := Lib.hid (HSY.out (by rw [hse, hk0]; rfl))
            clear hse
            subst hk0
            simp only [Nat.zero_mul, Nat.add_zero] at c0 c1
            go_wp2_with fail
            go_quiet ((go_at_call 36; exact quiet_eq (fName_b n _ (by simp only [maxLen]; omega) hn)))
            go_wp2_with fail
            go_roundw
            case rel => exact ⟨1, by omega, rfl, HS2.out, below_drewN (hbel.alloc hle _) _⟩
            case measure => simp [RowKit.intOf]; omega
          · obtain ⟨j, hj⟩ : ∃ j, k = j + 1 := ⟨k - 1, by omega⟩
            have hjl : j < l.length := by omega
            have hjb : Wr.befOk l k n = Wr.less l[j].1 n := by rw [hj]; exact Wr.befOk_at l j hjl n
            rw [hjb] at hse
            obtain ⟨d0, d1⟩ := ff_cells (fun i u hu => (hbel.cell (p := ⟨b, off + j * 2 + i, none⟩) hbl).trans (hc j hjl i u hu))
            generalize l[j] = pf at *
            obtain ⟨pn, pt⟩ := pf
            simp only at d0 d1 hse
            have hkj : (k : Int) - 1 = (j : Int) := by omega
            have i0 : (0 : Int) ≤ (j : Int) := by omega
            have i1 : (j : Int) < (l.length : Int) := by omega
            have i2 : (0 : Int) < (k : Int) := by omega
            have hb0 : Op.bytesLess (bs pn).toList (bs n).toList = Wr.less pn n := by rw [toListB, toListB]
            have hwj : IntKind.i64.wrap ((k : Int) - 1) = (j : Int) := by rw [hkj]; exact IntWalk.i64_in _ (by omega)
            have d0a := fun o => Lib.cell?_alloc_marked o d0
            clear hjb hj
            by_cases hl : Wr.less pn n = true
            · rw [hl] at hb0 hse
              have HS2 := Lib.hid (HSY.out hse)
              clear hl hse
              go_wp2_with fail
              go_quiet ((go_at_call 36; exact quiet_eq (fName_b n _ (by simp only [maxLen]; omega) hn)))
              go_wp2_with fail
              go_roundw
              case rel => exact ⟨k + 1, by omega, by go_num, HS2.out, below_drewN (hbel.alloc hle _) _⟩
              case measure => simp [RowKit.intOf]; omega
            · have hl : Wr.less pn n = false := by simpa using hl
              rw [hl] at hb0 hse
              have HN2 := Lib.hid (HNO.out hse)
              clear hl hse
              go_wp2_with fail
              go_quiet ((go_at_call 36; exact quiet_eq (fName_b n _ (by simp only [maxLen]; omega) hn)))
              go_wp2_with fail
              go_ret
              exact ⟨by rw [HN2.out]; rfl, below_drewN (hbel.alloc hle _) _⟩
        · rw [decide_eq_false ht, Bool.false_and] at hse
          have HN2 := Lib.hid (HNO.out hse)
          have ht' : decide ((4000 : Int) < ((bs t).size : Int)) = true := decide_eq_true (by omega)
          have ht2 : decide ((4000 : Int) < (t.length : Int)) = true := decide_eq_true (by omega)
          have ht3 : decide (4000 < t.length) = true := decide_eq_true (by omega)
          clear hse
          go_wp2_with fail
          go_quiet ((go_at_call 36; exact quiet_eq (fName_b n _ (by simp only [maxLen]; omega) hn)))
          go_wp2_with fail
          go_ret
          exact ⟨by rw [HN2.out]; rfl, below_drewN (hbel.alloc hle _) _⟩
      · have hn : Wr.nameOk n = false := by simpa using hn
        rw [hn, Bool.false_and, Bool.false_and] at hse
        have HN2 := Lib.hid (HNO.out hse)
        clear hse
        go_wp2_with fail
        go_quiet ((go_at_call 36; exact quiet_eq (fName_b n _ (by simp only [maxLen]; omega) hn)))
        go_wp2_with fail
        go_ret
        exact ⟨by rw [HN2.out]; rfl, below_drewN (hbel.alloc hle _) _⟩
    · obtain rfl : k = l.length := by omega
      have HE := Lib.hid (Wr.right_end l HS.out)
      by_cases h32 : l.length ≤ 32
      · have HF : Hid (Wr.right l = true) := Lib.hid (by rw [HE.out]; exact decide_eq_true h32)
        have h4 : decide ((l.length : Int) ≤ 32) = true := decide_eq_true (by omega)
        go_wp2_with fail
        go_ret
        exact ⟨by rw [HF.out]; first | rfl | (simp; omega), hbel⟩
      · have HF : Hid (Wr.right l = false) := Lib.hid (by rw [HE.out]; exact decide_eq_false h32)
        have h4 : decide ((l.length : Int) ≤ 32) = false := decide_eq_false (by omega)
        go_wp2_with fail
        go_ret
        exact ⟨by rw [HF.out]; first | rfl | (simp; omega), hbel⟩
end Go.Proofs.YtmgfbmkfgbildaaDoor
