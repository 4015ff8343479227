/- The walk of stetref16.commas. -/
import Derived.Test.YtmnekomoiffebaaDoorRows
import Derived.Test.YtmnekomoiffebaaDoorKit
import Derived.Test.YtmnekomoiffebaaDoorStr
import Derived.Test.YtmnekomoiffebaaDoorShelf
import Derived.Test.YtmnekomoiffebaaDoorNmW1
import Derived.Test.YtmnekomoiffebaaDoorNmW2
import Derived.Test.YtmnekomoiffebaaDoorNmW6
import Derived.Test.YtmnekomoiffebaaDoorNmW7
import Derived.Test.YtmnekomoiffebaaDoorNmR1
namespace Go.Proofs.YtmnekomoiffebaaDoor
open Go.RowKit Go.Lib Go.Sort Tx

theorem pieces_at_hit (p : UInt8 → Bool) (l : Bs) (k : Nat) (h : k < l.length) (hb : p l[k] = true) : pieces p (l.take (k + 1)) = pieces p (l.take k) ++ [[]] := by
  rw [List.take_succ_eq_append_getElem h, pieces, sp_hit p _ _ hb]
  rfl
theorem pieces_at_miss (p : UInt8 → Bool) (l : Bs) (k : Nat) (h : k < l.length) (hb : p l[k] = false) : pieces p (l.take (k + 1)) = (sp p (l.take k)).1 ++ [(sp p (l.take k)).2 ++ [l[k]]] := by
  rw [List.take_succ_eq_append_getElem h, pieces, sp_miss p _ _ hb]
theorem cm_int (c : UInt8) : ((c.toNat : Int) == 44) = cm c := by
  rw [Bool.eq_iff_iff]
  simp only [cm, beq_iff_eq]
  constructor
  · intro h; exact UInt8.toNat_inj.1 (by show c.toNat = 44; omega)
  · rintro rfl; rfl

set_option maxHeartbeats 2000000 in
theorem rCommas_any (s : ByteArray) (w : World) (hs : s.size < 100000) :
    Calls Tryd.prog 40 #[.string s] w fun e w' => ∃ v, e = .returned v ∧ Txs w.heap.size w' v (pieces cm s.data.toList) ∧ Below w.heap.size w w' := by
  have hl := size_list s
  go_enter Tryd.func40, Tryd.ntmps40
  go_wp2_with fail
  go_loopw [3, 4] (fun v i wr => ∃ k : Nat, k ≤ s.size ∧ i = .int .i64 k ∧ Txs w.heap.size wr v (pieces cm (s.data.toList.take k)) ∧ Below w.heap.size w wr) (fun _ i _ => s.size - (intOf i).toNat)
  case atStart =>
    refine ⟨0, Nat.zero_le _, rfl, ?_, (Below.refl _ _).alloc (Nat.le_refl _) _⟩
    exact ⟨rfl, .inr ⟨w.heap.size, 1, #[.string ⟨#[]⟩], rfl, Nat.le_refl _, heap_alloc_new _ _, Nat.le_refl _, by decide, rfl, rfl⟩⟩
  case round =>
    obtain ⟨k, hk, rfl, ho, hbel⟩ := hrel
    have hlen := pieces_length cm (s.data.toList.take k)
    have htk : (s.data.toList.take k).length ≤ s.size := by simp; omega
    have hszw := hbel.size
    by_cases hlt : k < s.size
    · have hx : (k : Int) < (s.size : Int) := by omega
      have hgl : s.data.toList[k]'(by omega) = s[k]'hlt := by rw [← get_list s k hlt]; exact get_at s k hlt
      have hci := cm_int (s[k]'hlt)
      cases hb : cm (s[k]'hlt) with
      | true =>
        have HW := Lib.hid (pieces_at_hit cm s.data.toList k (by omega) (by rw [hgl]; exact hb))
        rw [hb] at hci
        clear hgl hb
        go_wp2_with (at_builtin; refine app_text rfl (.tmp 16) (.tmp 17) rfl w.heap.size _ _ [] rfl rfl ho hszw (by omega) ?_; intro v' w2 h8 h9 h10)
        go_roundw
        case rel => exact ⟨k + 1, by omega, by go_num, by rw [HW.out]; exact h8, hbel.trans h9⟩
        case measure => simp [intOf]; omega
      | false =>
        have HW := Lib.hid (pieces_at_miss cm s.data.toList k (by omega) (by rw [hgl]; exact hb))
        rw [hb] at hci
        have hsl := bs_extract s k (k + 1)
        have HSL : Hid (((s.data.toList.take (k + 1)).drop k) = [s.data.toList[k]'(by omega)]) := by
          show _ = _
          rw [List.take_succ_eq_append_getElem (by omega), List.drop_append_of_le_length (by simp; omega), List.drop_of_length_le (by simp; omega)]
          rfl
        rw [hgl] at HW HSL
        rw [HSL.out] at hsl
        have hcl : (sp cm (s.data.toList.take k)).2.length ≤ s.size := by have := sp_sum cm (s.data.toList.take k); omega
        have hcz : (bs (sp cm (s.data.toList.take k)).2).size + (bs [s[k]'hlt]).size ≤ 9223372036854775807 := by rw [bs_size, bs_size]; simp; omega
        have hpl : (sp cm (s.data.toList.take k)).1.length ≤ s.size := by have := sp_length cm (s.data.toList.take k); omega
        have h8 : Txs w.heap.size wr u3 ((sp cm (s.data.toList.take k)).1 ++ [(sp cm (s.data.toList.take k)).2]) := ho
        clear hgl hb ho hlen
        obtain ⟨g, cap, rfl, p1, p2, p3, p4, p5, p6, p7⟩ := h8.last
        have HS := Lib.hid p7
        clear p7 h8
        generalize (sp cm (s.data.toList.take k)).1.length = n at *
        have hw1 : (n : Int) + 1 - 1 = (n : Int) := by omega
        have hw2 : IntKind.i64.wrap (n : Int) = (n : Int) := by rw [IntWalk.i64_in _ (by omega)]
        have hw5 : IntKind.i64.wrap ((k : Int) + 1) = (k : Int) + 1 := by rw [IntWalk.i64_in _ (by omega)]
        have hw3 : (n : Int) < (n : Int) + 1 := by omega
        have hw4 : (0 : Int) ≤ (n : Int) := by omega
        go_wp2_with fail
        refine wp_region_quiet_tail 17 (by kernel_rfl) (by kernel_rfl) ?_
        simp only [List.take_succ_cons, List.take_zero, List.drop_succ_cons, List.drop_zero]
        repeat (go_big_quiet_step (fail))
        refine wpQuiet_nil ?_
        go_wp2_with fail
        go_roundw
        case rel =>
          refine ⟨k + 1, by omega, by go_num, ?_, (hbel.setCell p1 _).drew⟩
          rw [bs_append, HW.out]
          exact (HS.out _).keep (fun _ _ _ => rfl)
        case measure => simp [intOf]; omega
    · obtain rfl : k = s.size := by omega
      have HW : Hid (pieces cm (s.data.toList.take s.size) = pieces cm s.data.toList) := by
        show _ = _
        rw [List.take_of_length_le (by omega)]
      clear hlen htk
      go_wp2_with fail
      go_ret
      exact ⟨_, rfl, by rw [← HW.out]; exact ho, hbel⟩
end Go.Proofs.YtmnekomoiffebaaDoor
