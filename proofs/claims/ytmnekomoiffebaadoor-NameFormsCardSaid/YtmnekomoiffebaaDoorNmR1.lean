/- The walks of stetref16's blank, Words, commas. -/
import Derived.Test.YtmnekomoiffebaaDoorRows
import Derived.Test.YtmnekomoiffebaaDoorKit
import Derived.Test.YtmnekomoiffebaaDoorStr
import Derived.Test.YtmnekomoiffebaaDoorShelf
import Derived.Test.YtmnekomoiffebaaDoorNmW1
import Derived.Test.YtmnekomoiffebaaDoorNmW2
import Derived.Test.YtmnekomoiffebaaDoorNmW6
import Derived.Test.YtmnekomoiffebaaDoorNmW7
namespace Go.Proofs.YtmnekomoiffebaaDoor
open Go.RowKit Go.Lib Go.Sort Tx

/-- The last text of an own row, and a row with another last one. -/
theorem Txs.last {base : Nat} {w : World} {v : Value} {l : List Bs} {x : Bs} (h : Txs base w v (l ++ [x])) :
    ∃ g cap, v = .slice (some ⟨g, 0, none⟩) (l.length + 1) cap ∧ base ≤ g ∧ g < w.heap.size ∧ l.length + 1 ≤ cap ∧ cap ≤ maxLen ∧ w.cell? ⟨g, l.length, none⟩ = some (.string (bs x)) ∧ w.frozen? ⟨g, l.length, none⟩ = false ∧
      ∀ y, Txs base (w.setCell ⟨g, l.length, none⟩ (.string (bs y))) v (l ++ [y]) := by
  have hl : (l ++ [x]).length = l.length + 1 := by simp
  obtain ⟨g, cap, rfl, q1, q2, q3, q4, q5⟩ := h.shape (by simp)
  have q := q5 l.length (by simp)
  simp at q
  rw [hl] at q3
  refine ⟨g, cap, by rw [hl], q1, q2, q3, q4, q.1, q.2, fun y => ?_⟩
  have h' : w.ownsRow base 9 1 (.slice (some ⟨g, 0, none⟩) (l ++ [x]).length cap) (l ++ [x]).length ((l ++ [x]).map vs) := h
  rcases h'.2 with ⟨e, _⟩ | ⟨g', cap', cur, e, hb, hg, hnc, hcm, hcs, htk⟩
  · cases e
  · cases e
    have hy : (l ++ [y]).length = (l ++ [x]).length := by simp
    refine ⟨by simp, .inr ⟨g, cap, _, by rw [hy], hb, cells_setCell hg _, by rw [hy]; exact hnc, hcm, by simpa using hcs, ?_⟩⟩
    rw [hl, Nat.mul_one] at htk
    rw [hy, hl, Nat.mul_one]
    apply List.ext_getElem?
    intro k
    have hk := congrArg (fun z : List Value => z[k]?) htk
    simp only [List.getElem?_take] at hk ⊢
    by_cases hkl : k < l.length + 1
    · rw [if_pos hkl] at hk ⊢
      by_cases he : k = l.length
      · subst he
        have : l.length < cur.size := by rw [hcs]; omega
        simp [this]
      · have h2 : k < l.length := by omega
        rw [Array.getElem?_toList, Array.getElem?_setIfInBounds_ne (by omega), ← Array.getElem?_toList, hk]
        simp [h2, List.getElem?_append_left]
    · rw [if_neg hkl]
      simp
      omega

set_option maxHeartbeats 400000 in
theorem blank_any (c : UInt8) (w : World) : Calls Tryd.prog 32 #[.int .u8 (c.toNat : Int)] w fun e w' => e = .returned (.bool (bl c)) ∧ w = w' := by
  cases hb : bl c with
  | true =>
    have h3 : c = 32 ∨ c = 9 ∨ c = 10 := by
      simp only [bl, Bool.or_eq_true, beq_iff_eq] at hb
      rcases hb with (h | h) | h <;> simp [h]
    clear hb
    rcases h3 with rfl | rfl | rfl
    all_goals
      go_enter Tryd.func32, Tryd.ntmps32
      go_wp2
      go_ret
      exact ⟨rfl, rfl⟩
  | false =>
    obtain ⟨k1, k2, k3⟩ := not_bl (n := c.toNat) (.inl rfl) hb
    clear hb
    generalize c.toNat = n at *
    go_enter Tryd.func32, Tryd.ntmps32
    go_wp2
    go_ret
    exact ⟨rfl, rfl⟩

namespace Tx
def ww (s : List Bs × Bs) : List Bs := ne s.1 ++ (if s.2 = [] then [] else [s.2])
theorem words_ww (l : Bs) : words l = ww (sp bl l) := by
  unfold words pieces ww
  rw [ne_append, ne_one]
theorem ww_blank (l : Bs) (k : Nat) (h : k < l.length) (hb : bl l[k] = true) : ww (sp bl (l.take (k + 1))) = ww (sp bl (l.take k)) := by
  rw [List.take_succ_eq_append_getElem h, sp_hit bl _ _ hb]
  unfold ww
  rw [ne_append, ne_one]
  simp
theorem ww_plain (l : Bs) (k : Nat) (h : k < l.length) (hb : bl l[k] = false) : ww (sp bl (l.take (k + 1))) = ne (sp bl (l.take k)).1 ++ [(sp bl (l.take k)).2 ++ [l[k]]] := by
  rw [List.take_succ_eq_append_getElem h, sp_miss bl _ _ hb]
  unfold ww
  simp
/-- Just behind a blank, or at the start, nothing is begun. -/
theorem cur_nil (l : Bs) (k : Nat) (h : k + 1 ≤ l.length) : (sp bl (l.take (k + 1))).2 = [] ↔ bl (l[k]'h) = true := by
  rw [List.take_succ_eq_append_getElem h]
  cases hb : bl (l[k]'h) with
  | true => rw [sp_hit bl _ _ hb]; simp
  | false => rw [sp_miss bl _ _ hb]; simp
theorem ww_length (l : Bs) (k : Nat) : (ww (sp bl (l.take k))).length ≤ l.length + 1 := by
  rw [← words_ww]
  have := words_length (l.take k)
  have h2 : (l.take k).length ≤ l.length := by simp; omega
  omega
end Tx

set_option maxHeartbeats 2000000 in
theorem rWords_any (s : ByteArray) (w : World) (hs : s.size < 100000) :
    Calls Tryd.prog 11 #[.string s] w fun e w' => ∃ v, e = .returned v ∧ Txs w.heap.size w' v (words s.data.toList) ∧ Below w.heap.size w w' := by
  have hl := size_list s
  go_enter Tryd.func11, Tryd.ntmps11
  go_wp2_with fail
  go_loopw [3, 4] (fun v i wr => ∃ k : Nat, k ≤ s.size ∧ i = .int .i64 k ∧ Txs w.heap.size wr v (ww (sp bl (s.data.toList.take k))) ∧ Below w.heap.size w wr) (fun _ i _ => s.size - (intOf i).toNat)
  case atStart =>
    refine ⟨0, Nat.zero_le _, rfl, ?_, (Below.refl _ _).alloc (Nat.le_refl _) _⟩
    exact World.ownsRow_made w #[] 0 (Nat.le_refl _) (by decide) (e := 9) (size := 1) rfl
  case round =>
    obtain ⟨k, hk, rfl, ho, hbel⟩ := hrel
    have hlen := ww_length s.data.toList k
    rw [hl] at hlen
    by_cases hlt : k < s.size
    · have hx : (k : Int) < (s.size : Int) := by omega
      have hgl : s.data.toList[k]'(by omega) = s[k]'hlt := by rw [← get_list s k hlt]; exact get_at s k hlt
      cases hb : bl (s[k]'hlt) with
      | true =>
        have HW := Lib.hid (ww_blank s.data.toList k (by omega) (by rw [hgl]; exact hb))
        have HB := Lib.hid hb
        clear hgl hb
        go_wp2_with fail
        refine (blank_any _ _).mono ?_
        rw [HB.out]
        rintro e w1 ⟨rfl, rfl⟩
        go_wp2_with fail
        go_roundw
        case rel => exact ⟨k + 1, by omega, by go_num, by rw [HW.out]; exact ho, hbel⟩
        case measure => simp [intOf]; omega
      | false =>
        have HW := Lib.hid (ww_plain s.data.toList k (by omega) (by rw [hgl]; exact hb))
        have HB := Lib.hid hb
        have hsl := bs_extract s k (k + 1)
        have HSL : Hid (((s.data.toList.take (k + 1)).drop k) = [s.data.toList[k]'(by omega)]) := by
          show _ = _
          rw [List.take_succ_eq_append_getElem (by omega), List.drop_append_of_le_length (by simp; omega), List.drop_of_length_le (by simp; omega)]
          rfl
        have HC : Hid ((sp bl (s.data.toList.take k)).2 = [] → ww (sp bl (s.data.toList.take k)) = ne (sp bl (s.data.toList.take k)).1) := by
          show _ → _
          intro h
          simp [ww, h]
        have HC2 : Hid ((sp bl (s.data.toList.take k)).2 ≠ [] → ww (sp bl (s.data.toList.take k)) = ne (sp bl (s.data.toList.take k)).1 ++ [(sp bl (s.data.toList.take k)).2]) := by
          show _ → _
          intro h
          simp [ww, h]
        have HO := Lib.hid ho
        rw [hgl] at HW HSL
        rw [HSL.out] at hsl
        have hcz : ∀ x : Bs, x.length ≤ s.size → (bs x).size + (bs [s[k]'hlt]).size ≤ 9223372036854775807 := fun x hx => by rw [bs_size, bs_size]; simp; omega
        have hne := ne_length (sp bl (s.data.toList.take k)).1
        have hsp := sp_length bl (s.data.toList.take k)
        have htk : (s.data.toList.take k).length ≤ s.size := by simp; omega
        have hszw := hbel.size
        clear ho
        by_cases hcur : (sp bl (s.data.toList.take k)).2 = []
        · have hos : Txs w.heap.size wr u3 (ne (sp bl (s.data.toList.take k)).1) := by rw [← HC.out hcur]; exact HO.out
          have HCU := Lib.hid hcur
          clear hgl hb hcur
          have hcz0 := hcz [] (by simp)
          clear hcz
          cases k with
          | zero =>
            go_wp2_with (first | (at_builtin; refine app_text rfl (.tmp 25) (.tmp 26) rfl w.heap.size _ _ [] rfl rfl hos hszw (by omega) ?_; intro v' w2 h8 h9 h10) | (go_at_call 32; refine (blank_any _ _).mono ?_; rw [HB.out]; rintro e w1 ⟨rfl, rfl⟩))
            obtain ⟨g, cap, rfl, p1, p2, p3, p4, p5, p6, p7⟩ := h8.last
            have HS := Lib.hid p7
            clear p7 h8
            generalize (ne (sp bl (s.data.toList.take 0)).1).length = n at *
            have hw1 : (n : Int) + 1 - 1 = (n : Int) := by omega
            have hw2 : IntKind.i64.wrap (n : Int) = (n : Int) := by rw [IntWalk.i64_in _ (by omega)]
            have hw3 : (n : Int) < (n : Int) + 1 := by omega
            have hw4 : (0 : Int) ≤ (n : Int) := by omega
            refine wp_region_quiet_tail 17 (by kernel_rfl) (by kernel_rfl) ?_
            simp only [List.take_succ_cons, List.take_zero, List.drop_succ_cons, List.drop_zero]
            repeat (go_big_quiet_step (fail))
            refine wpQuiet_nil ?_
            go_wp2_with fail
            go_roundw
            case rel =>
              refine ⟨0 + 1, by omega, by go_num, ?_, ((hbel.trans h9).setCell p1 _).drew⟩
              rw [bs_append, HW.out, HCU.out]
              exact (HS.out _).keep (fun _ _ _ => rfl)
            case measure => simp [intOf]; omega
          | succ j =>
            have HJ : Hid (bl (s[j]'(by omega)) = true) := by
              have hglj : s.data.toList[j]'(by omega) = s[j]'(by omega) := by rw [← get_list s j (by omega)]; exact get_at s j (by omega)
              show _ = _
              rw [← hglj]
              exact (cur_nil s.data.toList j (by omega)).1 HCU.out
            have hjx : ((j : Int) + 1 == 0) = false := by simp; omega
            have hjs : ((j : Int) + 1 - 1) = (j : Int) := by omega
            go_wp2_with fail
            refine (blank_any _ _).mono ?_
            rw [HB.out]
            rintro e w1 ⟨rfl, rfl⟩
            go_wp2_with fail
            refine (blank_any _ _).mono ?_
            rw [HJ.out]
            rintro e w1 ⟨rfl, rfl⟩
            go_wp2_with (at_builtin; refine app_text rfl (.tmp 25) (.tmp 26) rfl w.heap.size _ _ [] rfl rfl hos hszw (by omega) ?_; intro v' w2 h8 h9 h10)
            obtain ⟨g, cap, rfl, p1, p2, p3, p4, p5, p6, p7⟩ := h8.last
            have HS := Lib.hid p7
            clear p7 h8
            generalize (ne (sp bl (s.data.toList.take (j + 1))).1).length = n at *
            have hw1 : (n : Int) + 1 - 1 = (n : Int) := by omega
            have hw2 : IntKind.i64.wrap (n : Int) = (n : Int) := by rw [IntWalk.i64_in _ (by omega)]
            have hw3 : (n : Int) < (n : Int) + 1 := by omega
            have hw4 : (0 : Int) ≤ (n : Int) := by omega
            refine wp_region_quiet_tail 17 (by kernel_rfl) (by kernel_rfl) ?_
            simp only [List.take_succ_cons, List.take_zero, List.drop_succ_cons, List.drop_zero]
            repeat (go_big_quiet_step (fail))
            refine wpQuiet_nil ?_
            go_wp2_with fail
            go_roundw
            case rel =>
              refine ⟨(j + 1) + 1, by omega, by go_num, ?_, ((hbel.trans h9).setCell p1 _).drew⟩
              rw [bs_append, HW.out, HCU.out]
              exact (HS.out _).keep (fun _ _ _ => rfl)
            case measure => simp [intOf]; omega
        · have hos : Txs w.heap.size wr u3 (ne (sp bl (s.data.toList.take k)).1 ++ [(sp bl (s.data.toList.take k)).2]) := by rw [← HC2.out hcur]; exact HO.out
          have hcl : (sp bl (s.data.toList.take k)).2.length ≤ s.size := by have := sp_sum bl (s.data.toList.take k); omega
          have hcz0 := hcz _ hcl
          have h9 : Below w.heap.size wr wr := Below.refl _ _
          have HCU := Lib.hid hcur
          clear hcz hgl hb hcur
          cases k with
          | zero => exact absurd rfl HCU.out
          | succ j =>
            have HJ : Hid (bl (s[j]'(by omega)) = false) := by
              have hglj : s.data.toList[j]'(by omega) = s[j]'(by omega) := by rw [← get_list s j (by omega)]; exact get_at s j (by omega)
              show _ = _
              rw [← hglj, ← Bool.not_eq_true]
              exact fun h => HCU.out ((cur_nil s.data.toList j (by omega)).2 h)
            have hjx : ((j : Int) + 1 == 0) = false := by simp; omega
            have hjs : ((j : Int) + 1 - 1) = (j : Int) := by omega
            have h8 := hos
            clear hos
            go_wp2_with fail
            refine (blank_any _ _).mono ?_
            rw [HB.out]
            rintro e w1 ⟨rfl, rfl⟩
            go_wp2_with fail
            refine (blank_any _ _).mono ?_
            rw [HJ.out]
            rintro e w1 ⟨rfl, rfl⟩
            go_wp2_with fail
            obtain ⟨g, cap, rfl, p1, p2, p3, p4, p5, p6, p7⟩ := h8.last
            have HS := Lib.hid p7
            clear p7 h8
            generalize (ne (sp bl (s.data.toList.take (j + 1))).1).length = n at *
            have hw1 : (n : Int) + 1 - 1 = (n : Int) := by omega
            have hw2 : IntKind.i64.wrap (n : Int) = (n : Int) := by rw [IntWalk.i64_in _ (by omega)]
            have hw3 : (n : Int) < (n : Int) + 1 := by omega
            have hw4 : (0 : Int) ≤ (n : Int) := by omega
            refine wp_region_quiet_tail 17 (by kernel_rfl) (by kernel_rfl) ?_
            simp only [List.take_succ_cons, List.take_zero, List.drop_succ_cons, List.drop_zero]
            repeat (go_big_quiet_step (fail))
            refine wpQuiet_nil ?_
            go_wp2_with fail
            go_roundw
            case rel =>
              refine ⟨(j + 1) + 1, by omega, by go_num, ?_, ((hbel.trans h9).setCell p1 _).drew⟩
              rw [bs_append, HW.out]
              exact (HS.out _).keep (fun _ _ _ => rfl)
            case measure => simp [intOf]; omega
    · obtain rfl : k = s.size := by omega
      have HW : Hid (ww (sp bl (s.data.toList.take s.size)) = words s.data.toList) := by
        show _ = _
        rw [words_ww, List.take_of_length_le (by omega)]
      clear hlen
      go_wp2_with fail
      go_ret
      exact ⟨_, rfl, by rw [← HW.out]; exact ho, hbel⟩
end Go.Proofs.YtmnekomoiffebaaDoor
