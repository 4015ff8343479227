/- wire.length, wire.get, wire.Get: what they answer. -/
import Derived.Test.YtmgfbmkfgbildaaDoorRows
import Derived.Test.YtmgfbmkfgbildaaDoorKit
import Derived.Test.YtmgfbmkfgbildaaDoorStr
import Derived.Test.YtmgfbmkfgbildaaDoorWrPl
import Derived.Test.YtmgfbmkfgbildaaDoorWrE2
namespace Go.Proofs.YtmgfbmkfgbildaaDoor
open Go.RowKit Go.Lib Go.Sort Tx

theorem len_at (s : Bs) (p k m : Nat) (h : p < s.length) : Wr.len (s.drop p) k m =
    if s[p].toNat = 58 ∧ 0 < k then .ok (m, s.drop (p + 1))
    else if s[p].toNat < 48 ∨ 57 < s[p].toNat ∨ (0 < k ∧ m = 0) then .error 5
    else if 999999 < m * 10 + (s[p].toNat - 48) then .error 3
    else Wr.len (s.drop (p + 1)) (k + 1) (m * 10 + (s[p].toNat - 48)) := by
  rw [List.drop_eq_getElem_cons h, Wr.len]
theorem len_done (s : Bs) (k m : Nat) : Wr.len (s.drop s.length) k m = .error 6 := by rw [List.drop_length]; rfl

def LenPost (s : Bs) (a : Nat) (w : World) (e : Ending) (w' : World) : Prop :=
  Below w.heap.size w w' ∧ ((∃ n q : Nat, Wr.len (s.drop a) 0 0 = .ok (n, s.drop q) ∧ n ≤ 999999 ∧ a < q ∧ q ≤ s.length ∧ e = .returned (.tuple #[.int .i64 n, .int .i64 q, .nilIface])) ∨
    (∃ (x : Nat) (v : Value), Wr.len (s.drop a) 0 0 = .error x ∧ e = .returned (.tuple #[.int .i64 0, .int .i64 0, v]) ∧ ErrV w' v x))
theorem errV_new (w : World) (i : Int) (x : Nat) : ErrV (w.alloc (.cells #[.int .i64 i, .int .i64 x] 63)) (.iface 61 (.pointer (some ⟨w.heap.size, 0, none⟩))) x :=
  ⟨w.heap.size, rfl, by rw [cell_of_row _ w.heap.size 1 _ 63 (0, 0) (heap_alloc_new w _)]; rfl⟩
theorem LenPost.err {s : Bs} {a : Nat} {w w' : World} {i : Int} {x : Nat} (h : Wr.len (s.drop a) 0 0 = .error x) (hb : Below w.heap.size w w') (hs : w.heap.size ≤ w'.heap.size) :
    LenPost s a w (.returned (.tuple #[.int .i64 0, .int .i64 0, .iface 61 (.pointer (some ⟨w'.heap.size, 0, none⟩))])) (w'.alloc (.cells #[.int .i64 i, .int .i64 x] 63)) :=
  ⟨hb.alloc hs _, .inr ⟨x, _, h, rfl, errV_new w' i x⟩⟩

set_option maxHeartbeats 4000000 in
theorem length_any (s : Bs) (a : Nat) (w : World) (h : a ≤ s.length) (hs : s.length ≤ maxLen) :
    Calls Tryd.prog 33 #[vs s, .int .i64 a] w (LenPost s a w) := by
  have hz := bs_size s
  simp only [maxLen] at hs
  go_enter Tryd.func33, Tryd.ntmps33
  go_wp2_with fail
  go_loop [7, 8] (fun n i => ∃ p m : Nat, a ≤ p ∧ p ≤ s.length ∧ i = .int .i64 p ∧ n = .int .i64 m ∧ m ≤ 999999 ∧ Wr.len (s.drop a) 0 0 = Wr.len (s.drop p) (p - a) m) (fun _ i => s.length - (intOf i).toNat)
  case atStart => exact ⟨a, 0, Nat.le_refl _, h, rfl, rfl, by omega, by rw [Nat.sub_self]⟩
  case round =>
    obtain ⟨p, m, hap, hps, rfl, rfl, hm, hl⟩ := hrel
    by_cases hlt : p < s.length
    · rw [len_at s p (p - a) m hlt] at hl
      have hpb : p < (bs s).size := by omega
      have hpi : (p : Int) < ((bs s).size : Int) := by omega
      have hgb : (bs s)[p]'hpb = s[p] := rfl
      have hcb : s[p].toNat < 256 := s[p].toNat_lt
      generalize s[p] = c at *
      obtain ⟨x, hx⟩ : ∃ x, x = c.toNat := ⟨_, rfl⟩
      rw [← hx] at hl hcb
      have HX := Lib.hid hx
      have hgx : ((c.toNat : Nat) : Int) = (x : Int) := by rw [hx]
      clear hx
      by_cases h1 : x = 58 ∧ a < p
      · obtain ⟨rfl, h2⟩ := h1
        rw [if_pos ⟨rfl, by omega⟩] at hl
        have HL := Lib.hid hl
        have h2' : (a : Int) < (p : Int) := by omega
        clear hl
        go_wp2_with fail
        go_ret3
        exact ⟨Below.refl _ _, .inl ⟨m, p + 1, HL.out, hm, by omega, by omega, by go_num⟩⟩
      · rw [if_neg (by omega)] at hl
        by_cases h3 : x < 48 ∨ 57 < x ∨ (a < p ∧ m = 0)
        · rw [if_pos (by omega)] at hl
          have HL := Lib.hid hl
          clear hl
          by_cases h58 : x = 58
          · have h4 : (p : Int) ≤ (a : Int) := by omega
            subst h58
            go_wp2_with fail
            go_ret3
            exact LenPost.err HL.out (Below.refl _ _) (Nat.le_refl _)
          · have h58' : ((x : Int) == 58) = false := by simp; omega
            by_cases h5 : x < 48
            · have h5' : (x : Int) < 48 := by omega
              go_wp2_with fail
              go_ret3
              exact LenPost.err HL.out (Below.refl _ _) (Nat.le_refl _)
            · have h5' : (48 : Int) ≤ (x : Int) := by omega
              by_cases h6 : 57 < x
              · have h6' : (57 : Int) < (x : Int) := by omega
                go_wp2_with fail
                go_ret3
                exact LenPost.err HL.out (Below.refl _ _) (Nat.le_refl _)
              · have h6' : (x : Int) ≤ 57 := by omega
                have h7' : (a : Int) < (p : Int) := by omega
                obtain rfl : m = 0 := by omega
                go_wp2_with fail
                go_ret3
                exact LenPost.err HL.out (Below.refl _ _) (Nat.le_refl _)
        · rw [if_neg (by omega)] at hl
          have h58' : ((x : Int) == 58) = false := by simp; omega
          have h5' : (48 : Int) ≤ (x : Int) := by omega
          have h6' : (x : Int) ≤ 57 := by omega
          by_cases h8 : 999999 < m * 10 + (x - 48)
          · rw [if_pos h8] at hl
            have HL := Lib.hid hl
            have h8' : (999999 : Int) < (m : Int) * 10 + ((x : Int) - 48) := by omega
            clear hl
            by_cases h7 : a < p
            · have h7' : (a : Int) < (p : Int) := by omega
              have hm0 : ((m : Int) == 0) = false := by simp; omega
              go_wp2_with fail
              go_ret3
              exact LenPost.err HL.out (Below.refl _ _) (Nat.le_refl _)
            · have h7' : (p : Int) ≤ (a : Int) := by omega
              go_wp2_with fail
              go_ret3
              exact LenPost.err HL.out (Below.refl _ _) (Nat.le_refl _)
          · rw [if_neg h8] at hl
            have HL : Hid (Wr.len (s.drop a) 0 0 = Wr.len (s.drop (p + 1)) (p + 1 - a) (m * 10 + (x - 48))) := by rw [show p + 1 - a = p - a + 1 by omega]; exact hl
            have h8' : (m : Int) * 10 + ((x : Int) - 48) ≤ (999999 : Int) := by omega
            clear hl
            by_cases h7 : a < p
            · have h7' : (a : Int) < (p : Int) := by omega
              have hm0 : ((m : Int) == 0) = false := by simp; omega
              go_wp2_with fail
              go_round
              case rel => exact ⟨p + 1, m * 10 + (x - 48), by omega, by omega, by go_num, by congr 1; omega, by omega, HL.out⟩
              case measure => simp [intOf]; omega
            · have h7' : (p : Int) ≤ (a : Int) := by omega
              go_wp2_with fail
              go_round
              case rel => exact ⟨p + 1, m * 10 + (x - 48), by omega, by omega, by go_num, by congr 1; omega, by omega, HL.out⟩
              case measure => simp [intOf]; omega
    · obtain rfl : p = s.length := by omega
      rw [len_done] at hl
      have HL := Lib.hid hl
      clear hl
      go_wp2_with fail
      go_ret3
      exact LenPost.err HL.out (Below.refl _ _) (Nat.le_refl _)
end Go.Proofs.YtmgfbmkfgbildaaDoor
