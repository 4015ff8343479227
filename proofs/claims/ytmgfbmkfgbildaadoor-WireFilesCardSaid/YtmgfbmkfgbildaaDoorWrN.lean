/- files.Name and the reference's Name. -/
import Derived.Test.YtmgfbmkfgbildaaDoorRows
import Derived.Test.YtmgfbmkfgbildaaDoorKit
import Derived.Test.YtmgfbmkfgbildaaDoorStr
import Derived.Test.YtmgfbmkfgbildaaDoorWrPl2
import Derived.Test.YtmgfbmkfgbildaaDoorShelf
namespace Go.Proofs.YtmgfbmkfgbildaaDoor
open Go.RowKit Go.Lib Go.Sort Tx

def fsigns : Bs := [97, 98, 99, 100, 101, 102, 103, 104, 105, 106, 107, 108, 109, 110, 111, 112, 113, 114, 115, 116, 117, 118, 119, 120, 121, 122, 48, 49, 50, 51, 52, 53, 54, 55, 56, 57, 45, 46]
theorem index_sign (c : UInt8) : (decide (Lib.indexByte fsigns c < 0)) = !(Wr.sign c) := by
  have h : (List.range 256).all (fun n => (decide (Lib.indexByte fsigns (UInt8.ofNat n) < 0)) == !(Wr.sign (UInt8.ofNat n))) = true := by decide +kernel
  have := List.all_eq_true.1 h c.toNat (List.mem_range.2 c.toNat_lt)
  rw [beq_iff_eq] at this
  simpa using this
theorem all_take_succ (p : UInt8 → Bool) (s : Bs) (k : Nat) (h : k < s.length) (h1 : (s.take k).all p = true) (h2 : p s[k] = true) : (s.take (k + 1)).all p = true := by
  rw [List.take_succ_eq_append_getElem h, List.all_append, h1]
  simp [h2]
theorem all_no (p : UInt8 → Bool) (s : Bs) (k : Nat) (h : k < s.length) (h2 : p s[k] = false) : s.all p = false := by
  rw [List.all_eq_false]
  exact ⟨s[k], List.getElem_mem h, by simp [h2]⟩
theorem name_no (s : Bs) (k : Nat) (h : k < s.length) (h2 : Wr.sign s[k] = false) : Wr.nameOk s = false := by
  unfold Wr.nameOk
  rw [show (s : List UInt8).all Wr.sign = false from all_no Wr.sign s k h h2]
  rfl
theorem name_end (s : Bs) (h : (s.take s.length).all Wr.sign = true) : Wr.nameOk s = decide (1 ≤ s.length ∧ s.length ≤ 24) := by
  unfold Wr.nameOk
  rw [List.take_length] at h
  rw [show (s : List UInt8).all Wr.sign = true from h]
  rfl

set_option maxHeartbeats 4000000 in
theorem fName_any (s : Bs) (w : World) (hs : s.length ≤ maxLen) :
    Calls Tryd.prog 36 #[vs s] w fun e w' => e = .returned (.bool (Wr.nameOk s)) ∧ w = w' := by
  have hz := bs_size s
  simp only [maxLen] at hs
  go_enter Tryd.func36, Tryd.ntmps36
  go_wp2_with fail
  go_loop [6] (fun i => ∃ k : Nat, k ≤ s.length ∧ i = .int .i64 k ∧ (s.take k).all Wr.sign = true) (fun i => s.length - (RowKit.intOf i).toNat)
  case atStart => exact ⟨0, Nat.zero_le _, rfl, by simp⟩
  case round =>
    obtain ⟨k, hk, rfl, ha⟩ := hrel
    have HA := Lib.hid ha
    clear ha
    by_cases hlt : k < s.length
    · have hi : (k : Int) < ((bs s).size : Int) := by omega
      have hkb : k < (bs s).size := by omega
      have hgb : (bs s)[k]'hkb = s[k] := rfl
      have HS := Lib.hid (all_take_succ Wr.sign s k hlt HA.out)
      have HN := Lib.hid (name_no s k hlt)
      have hix := index_sign s[k]
      generalize s[k] = c at *
      have HX : Hid (Lib.indexByte fsigns ((c.toNat : Int).toNat.toUInt8) = Lib.indexByte fsigns c) := Lib.hid (by simp)
      generalize hr : Lib.indexByte fsigns c = r at *
      by_cases hsg : Wr.sign c = true
      · have hr0 : (0 : Int) ≤ r := by
          rw [hsg] at hix
          simpa using hix
        have HS2 := Lib.hid (HS.out hsg)
        clear hix hsg hr
        go_wp2_with (go_at_call 45; refine (Tryd.strings_IndexByte ⟨fsigns.toArray⟩ (c.toNat : Int) _).mono ?_; rintro e w' ⟨rfl, rfl⟩; rw [HX.out])
        go_round
        case rel => exact ⟨k + 1, by omega, by go_num, HS2.out⟩
        case measure => simp [RowKit.intOf]; omega
      · have hsg : Wr.sign c = false := by simpa using hsg
        have hr0 : r < 0 := by
          rw [hsg] at hix
          simpa using hix
        have HN2 := Lib.hid (HN.out hsg)
        clear hix hsg hr
        go_wp2_with (go_at_call 45; refine (Tryd.strings_IndexByte ⟨fsigns.toArray⟩ (c.toNat : Int) _).mono ?_; rintro e w' ⟨rfl, rfl⟩; rw [HX.out])
        go_ret
        exact ⟨by rw [HN2.out]; rfl, rfl⟩
    · obtain rfl : k = s.length := by omega
      have HE := Lib.hid (name_end s HA.out)
      by_cases h1 : 1 ≤ s.length
      · have h1' : (1 : Int) ≤ ((bs s).size : Int) := by omega
        by_cases h2 : s.length ≤ 24
        · have h2' : ((bs s).size : Int) ≤ 24 := by omega
          have h4' : decide ((s.length : Int) ≤ 24) = true := decide_eq_true (by omega)
          have HF : Hid (Wr.nameOk s = true) := Lib.hid (by rw [HE.out]; exact decide_eq_true ⟨h1, h2⟩)
          go_wp2_with fail
          go_ret
          exact ⟨by rw [HF.out]; rfl, rfl⟩
        · have h2' : (24 : Int) < ((bs s).size : Int) := by omega
          have h3' : decide (((bs s).size : Int) ≤ 24) = false := by simp; omega
          have h4' : decide ((s.length : Int) ≤ 24) = false := by simp; omega
          have HF : Hid (Wr.nameOk s = false) := Lib.hid (by rw [HE.out]; exact decide_eq_false (by omega))
          go_wp2_with fail
          go_ret
          exact ⟨by rw [HF.out]; first | rfl | (simp; omega), rfl⟩
      · have h1' : ((bs s).size : Int) < 1 := by omega
        have h3' : decide ((1 : Int) ≤ ((bs s).size : Int)) = false := by simp; omega
        have h4' : decide ((1 : Int) ≤ (s.length : Int)) = false := by simp; omega
        have HF : Hid (Wr.nameOk s = false) := Lib.hid (by rw [HE.out]; exact decide_eq_false (by omega))
        go_wp2_with fail
        go_ret
        exact ⟨by rw [HF.out]; first | rfl | (simp; omega), rfl⟩

set_option maxHeartbeats 8000000 in
theorem rName_any (s : Bs) (w : World) (hs : s.length ≤ maxLen) :
    Calls Tryd.prog 37 #[vs s] w fun e w' => e = .returned (.bool (Wr.nameOk s)) ∧ w = w' := by
  have hz := bs_size s
  simp only [maxLen] at hs
  go_enter Tryd.func37, Tryd.ntmps37
  go_wp2_with fail
  go_loop [3] (fun i => ∃ k : Nat, k ≤ s.length ∧ i = .int .i64 k ∧ (s.take k).all Wr.sign = true) (fun i => s.length - (RowKit.intOf i).toNat)
  case atStart => exact ⟨0, Nat.zero_le _, rfl, by simp⟩
  case round =>
    obtain ⟨k, hk, rfl, ha⟩ := hrel
    have HA := Lib.hid ha
    clear ha
    by_cases hlt : k < s.length
    · have hi : (k : Int) < ((bs s).size : Int) := by omega
      have hkb : k < (bs s).size := by omega
      have hgb : (bs s)[k]'hkb = s[k] := rfl
      have HS := Lib.hid (all_take_succ Wr.sign s k hlt HA.out)
      have HN := Lib.hid (name_no s k hlt)
      generalize s[k] = c at *
      have hcb : c.toNat < 256 := c.toNat_lt
      have hsg : Wr.sign c = (decide (97 ≤ c.toNat ∧ c.toNat ≤ 122) || decide (48 ≤ c.toNat ∧ c.toNat ≤ 57) || decide (c.toNat = 45) || decide (c.toNat = 46)) := rfl
      obtain ⟨x, hx⟩ : ∃ x, x = c.toNat := ⟨_, rfl⟩
      rw [← hx] at hsg hcb
      have hgx : ((c.toNat : Nat) : Int) = (x : Int) := by rw [hx]
      clear hx
      have hyes : Wr.sign c = true → Hid ((s.take (k + 1)).all Wr.sign = true) := fun h => Lib.hid (HS.out h)
      have hnot : Wr.sign c = false → Hid (Wr.nameOk s = false) := fun h => Lib.hid (HN.out h)
      clear HS HN
      by_cases h1 : 97 ≤ x ∧ x ≤ 122
      · have HS2 := hyes (by rw [hsg]; simp; omega)
        have i1 : (97 : Int) ≤ (x : Int) := by omega
        have i2 : (x : Int) ≤ 122 := by omega
        clear hsg hyes hnot h1
        go_wp2_with fail
        go_round
        case rel => exact ⟨k + 1, by omega, by go_num, HS2.out⟩
        case measure => simp [RowKit.intOf]; omega
      · have hcase : (122 < x) ∨ (x < 97 ∧ 57 < x) ∨ (48 ≤ x ∧ x ≤ 57) ∨ x = 47 ∨ x = 46 ∨ x = 45 ∨ x < 45 := by omega
        rcases hcase with h2 | h2 | h2 | h2 | h2 | h2 | h2
        · have HN2 := hnot (by rw [hsg]; simp; omega)
          have i1 : (97 : Int) ≤ (x : Int) := by omega
          have i2 : decide ((x : Int) ≤ 122) = false := decide_eq_false (by omega)
          have i3 : (48 : Int) ≤ (x : Int) := by omega
          have i4 : decide ((x : Int) ≤ 57) = false := decide_eq_false (by omega)
          have i5 : ((x : Int) == 45) = false := by simp; omega
          have i6 : ((x : Int) == 46) = false := by simp; omega
          clear hsg hyes hnot h1 h2
          go_wp2_with fail
          go_ret
          exact ⟨by rw [HN2.out]; rfl, rfl⟩
        · have HN2 := hnot (by rw [hsg]; simp; omega)
          have i1 : decide ((97 : Int) ≤ (x : Int)) = false := decide_eq_false (by omega)
          have i3 : (48 : Int) ≤ (x : Int) := by omega
          have i4 : decide ((x : Int) ≤ 57) = false := decide_eq_false (by omega)
          have i5 : ((x : Int) == 45) = false := by simp; omega
          have i6 : ((x : Int) == 46) = false := by simp; omega
          clear hsg hyes hnot h1 h2
          go_wp2_with fail
          go_ret
          exact ⟨by rw [HN2.out]; rfl, rfl⟩
        · have HS2 := hyes (by rw [hsg]; simp; omega)
          have i1 : decide ((97 : Int) ≤ (x : Int)) = false := decide_eq_false (by omega)
          have i3 : (48 : Int) ≤ (x : Int) := by omega
          have i4 : (x : Int) ≤ 57 := by omega
          clear hsg hyes hnot h1 h2
          go_wp2_with fail
          go_round
          case rel => exact ⟨k + 1, by omega, by go_num, HS2.out⟩
          case measure => simp [RowKit.intOf]; omega
        · have HN2 := hnot (by rw [hsg]; simp; omega)
          subst h2
          clear hsg hyes hnot h1
          go_wp2_with fail
          go_ret
          exact ⟨by rw [HN2.out]; rfl, rfl⟩
        · have HS2 := hyes (by rw [hsg]; simp; omega)
          subst h2
          clear hsg hyes hnot h1
          go_wp2_with fail
          go_round
          case rel => exact ⟨k + 1, by omega, by go_num, HS2.out⟩
          case measure => simp [RowKit.intOf]; omega
        · have HS2 := hyes (by rw [hsg]; simp; omega)
          subst h2
          clear hsg hyes hnot h1
          go_wp2_with fail
          go_round
          case rel => exact ⟨k + 1, by omega, by go_num, HS2.out⟩
          case measure => simp [RowKit.intOf]; omega
        · have HN2 := hnot (by rw [hsg]; simp; omega)
          have i1 : decide ((97 : Int) ≤ (x : Int)) = false := decide_eq_false (by omega)
          have i3 : decide ((48 : Int) ≤ (x : Int)) = false := decide_eq_false (by omega)
          have i5 : ((x : Int) == 45) = false := by simp; omega
          have i6 : ((x : Int) == 46) = false := by simp; omega
          clear hsg hyes hnot h1 h2
          go_wp2_with fail
          go_ret
          exact ⟨by rw [HN2.out]; rfl, rfl⟩
    · obtain rfl : k = s.length := by omega
      have HE := Lib.hid (name_end s HA.out)
      by_cases h1 : 1 ≤ s.length
      · have h1' : (1 : Int) ≤ ((bs s).size : Int) := by omega
        by_cases h2 : s.length ≤ 24
        · have h2' : ((bs s).size : Int) ≤ 24 := by omega
          have h4' : decide ((s.length : Int) ≤ 24) = true := decide_eq_true (by omega)
          have HF : Hid (Wr.nameOk s = true) := Lib.hid (by rw [HE.out]; exact decide_eq_true ⟨h1, h2⟩)
          go_wp2_with fail
          go_ret
          exact ⟨by rw [HF.out]; rfl, rfl⟩
        · have h2' : (24 : Int) < ((bs s).size : Int) := by omega
          have h3' : decide (((bs s).size : Int) ≤ 24) = false := by simp; omega
          have h4' : decide ((s.length : Int) ≤ 24) = false := by simp; omega
          have HF : Hid (Wr.nameOk s = false) := Lib.hid (by rw [HE.out]; exact decide_eq_false (by omega))
          go_wp2_with fail
          go_ret
          exact ⟨by rw [HF.out]; first | rfl | (simp; omega), rfl⟩
      · have h1' : ((bs s).size : Int) < 1 := by omega
        have h3' : decide ((1 : Int) ≤ ((bs s).size : Int)) = false := by simp; omega
        have h4' : decide ((1 : Int) ≤ (s.length : Int)) = false := by simp; omega
        have HF : Hid (Wr.nameOk s = false) := Lib.hid (by rw [HE.out]; exact decide_eq_false (by omega))
        go_wp2_with fail
        go_ret
        exact ⟨by rw [HF.out]; first | rfl | (simp; omega), rfl⟩
end Go.Proofs.YtmgfbmkfgbildaaDoor
