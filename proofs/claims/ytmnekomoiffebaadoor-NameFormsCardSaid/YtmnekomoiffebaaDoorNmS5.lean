/- The walk of name.Short. -/
import Derived.Test.YtmnekomoiffebaaDoorRows
import Derived.Test.YtmnekomoiffebaaDoorKit
import Derived.Test.YtmnekomoiffebaaDoorStr
import Derived.Test.YtmnekomoiffebaaDoorShelf
import Derived.Test.YtmnekomoiffebaaDoorNmW1
import Derived.Test.YtmnekomoiffebaaDoorNmW2
import Derived.Test.YtmnekomoiffebaaDoorNmW3
import Derived.Test.YtmnekomoiffebaaDoorNmW4
import Derived.Test.YtmnekomoiffebaaDoorNmW7
import Derived.Test.YtmnekomoiffebaaDoorNmR1
import Derived.Test.YtmnekomoiffebaaDoorNmR3
import Derived.Test.YtmnekomoiffebaaDoorNmS1
import Derived.Test.YtmnekomoiffebaaDoorNmS2
import Derived.Test.YtmnekomoiffebaaDoorNmS4
namespace Go.Proofs.YtmnekomoiffebaaDoor
open Go.RowKit Go.Lib Go.Sort Tx

theorem bs_ini (x : Bs) : bs (x.take 1) ++ (⟨#[46]⟩ : ByteArray) = bs (ini x) := by
  rw [show (⟨#[46]⟩ : ByteArray) = bs [46] from rfl, bs_append]; rfl
theorem ini_length (x : Bs) (h : x ≠ []) : (ini x).length = 2 := by cases x <;> simp [ini] at h ⊢
theorem ini_sum (l : List Bs) (h : ∀ x ∈ l, x ≠ []) : ((l.map ini).map List.length).sum = 2 * l.length := by
  induction l with
  | nil => rfl
  | cons a l ih =>
    have := ih fun x hx => h x (List.mem_cons_of_mem _ hx)
    simp only [List.map_cons, List.sum_cons, List.length_cons, this, ini_length a (h a (List.mem_cons_self ..))]
    omega
theorem whole4_any (a b c d : Bs) (w : World) (g : Nat) (hg : g = w.heap.size) (h : a.length + b.length + c.length + d.length < 500000) :
    Calls Tryd.prog 42 #[.slice (some ⟨g, 0, none⟩) 4 4] (w.alloc (.cells #[.string (bs a), .string (bs b), .string (bs c), .string (bs d)] 9)) fun e w' => e = .returned (vs (Tx.join (ne [a, b, c, d]))) ∧ Below w.heap.size w w' :=
  whole_any [a, b, c, d] w g hg (by simp) (by simp; omega)
theorem str_cells {w : World} {g : Nat} {a b c d : Value} {t : TypeId} (h : w.heap[g]? = some (.cells #[a, b, c, d] t (0, 0))) : w.cell? ⟨g, 1, none⟩ = some b ∧ w.cell? ⟨g, 2, none⟩ = some c ∧ w.cell? ⟨g, 3, none⟩ = some d := (four_cells h).1.2

set_option maxHeartbeats 2000000 in
theorem short_any (p : P4) (w : World) (hp : Sm p 10000) :
    Calls Tryd.prog 21 #[pv p] w fun e w' => e = .returned (vs (shortS p)) ∧ Below w.heap.size w w' := by
  have HR := Lib.hid (short_two p)
  obtain ⟨f, v, l, j⟩ := p
  obtain ⟨h1, h2, h3, h4⟩ := hp
  simp only at h1 h2 h3 h4 HR
  have zf : (bs f).size < 10000 := by rw [bs_size]; exact h1
  obtain ⟨q1, q2, q3, q4⟩ := words_lens f
  have hsum := ini_sum (words f) q4
  have Q4 := Lib.hid q4
  clear q4
  go_enter Tryd.func21, Tryd.ntmps21
  go_wp2_with fail
  refine (words_any (bs f) _ (by omega)).mono ?_
  rintro e w2 ⟨v2, rfl, hr, hb⟩
  rw [bs_list] at hr
  generalize words f = ws at *
  obtain ⟨A, cap, rfl, s1, s2, s3⟩ := hr.shape
  have e2 : w2.heap[w.heap.size]? = some (.cells #[.string (bs f), .string (bs v), .string (bs l), .string (bs j)] 28 (0, 0)) := (hb.block _ (by simp)).trans (heap_alloc_new w _)
  have E2 := Lib.hid e2
  have hlt2 := lt_of_block e2
  have H3 := Lib.hid s3
  have HBW : Hid (Below w.heap.size w w2) := Lib.hid (((Below.refl _ _).alloc (Nat.le_refl _) _).trans (hb.mono (by simp)))
  have HS := Lib.hid hsum
  clear e2 s3 hr hb hsum
  go_wp2_with fail
  go_loopw [3, 10] (fun o i wr => ∃ k : Nat, k ≤ ws.length ∧ i = .int .i64 k ∧ Txs w2.heap.size wr o ((ws.map ini).take k) ∧ Below w2.heap.size w2 wr) (fun _ i _ => ws.length - (intOf i).toNat)
  case atStart => exact ⟨0, Nat.zero_le _, rfl, Txs.nil _ _, Below.refl _ _⟩
  case round =>
    obtain ⟨k, hk, rfl, ho, hbel⟩ := hrel
    have hsz := hbel.size
    by_cases hlt : k < ws.length
    · obtain ⟨b, off, rfl, hbl, hc⟩ := H3.out (by rintro rfl; simp at hlt)
      have hck := (hbel.cell (p := ⟨b, off + k, none⟩) hbl).trans (hc k hlt)
      have hxne := Q4.out _ (List.getElem_mem hlt)
      have hx : (k : Int) < (ws.length : Int) := by omega
      have HST : Hid ((ws.map ini).take (k + 1) = (ws.map ini).take k ++ [ini ws[k]]) := by
        show _ = _
        rw [List.take_succ_eq_append_getElem (by simpa using hlt), List.getElem_map]
      have hxs : ws[k].length ≤ f.length := by
        have := le_sum (List.mem_map.2 ⟨ws[k], List.getElem_mem hlt, rfl⟩ : ws[k].length ∈ ws.map List.length)
        omega
      have HO := Lib.hid ho
      clear hc ho
      generalize ws[k] = x at *
      have hx1 : (1 : Int) ≤ ((bs x).size : Int) := by rw [bs_size]; have := List.length_pos_iff.2 hxne; omega
      have hx2 : (bs x).size < 100000 := by rw [bs_size]; omega
      have hx3 := bs_take x 1
      have hx4 := bs_ini x
      have hx5 : (bs (x.take 1)).size < 10 := by rw [bs_size]; simp; omega
      clear hxne hxs
      go_wp2_with (at_builtin; refine app_text rfl (.tmp 14) (.tmp 18) rfl w2.heap.size _ _ (ini x) rfl rfl HO.out hsz (by simp; omega) ?_; intro v' w3 h8 h9 h10)
      go_roundw
      case rel => exact ⟨k + 1, by omega, by go_num, by rw [HST.out]; exact h8, hbel.trans h9⟩
      case measure => simp [intOf]; omega
    · obtain rfl : k = ws.length := by omega
      have e3 := (hbel.block _ hlt2).trans E2.out
      obtain ⟨f1, f2, f3⟩ := str_cells e3
      have HO : Hid (Txs w2.heap.size wr u3 (ws.map ini)) := by
        rw [List.take_of_length_le (by simp)] at ho
        exact Lib.hid ho
      have hjl : (Tx.join (ws.map ini)).length ≤ 3 * ws.length := by have := join_length (ws.map ini); have := HS.out; simp at this ⊢; simp at *; omega
      have hml : (ws.map ini).length < 100000 := by simp; omega
      have HB := Lib.hid hbel
      clear e3 ho hbel
      generalize ws.map ini = M at *
      have hd0 : Below wr.heap.size wr wr.drew := (Below.refl _ _).drew
      go_wp2_with fail
      go_region_held3 (fun wx => wx.cell? ⟨w.heap.size, 1, none⟩ = some (.string (bs v)) ∧ wx.cell? ⟨w.heap.size, 2, none⟩ = some (.string (bs l)) ∧ wx.cell? ⟨w.heap.size, 3, none⟩ = some (.string (bs j))) (go_keep) (first
        | (have y := tk1; go_at_call 42; refine (whole4_any (Tx.join M) v l j _ _ rfl (by omega)).mono ?_; rintro e w5 ⟨rfl, hb5⟩; have f12 := (hb5.cell (p := ⟨w.heap.size, 1, none⟩) hlt5).trans f11; have f22 := (hb5.cell (p := ⟨w.heap.size, 2, none⟩) hlt5).trans f21; have f32 := (hb5.cell (p := ⟨w.heap.size, 3, none⟩) hlt5).trans f31; dsimp only)
        | (go_at_call 34; refine (join_any _ M _ (Row.step HO.out.row hd0) (by omega) (by omega)).mono ?_; rintro e w4 ⟨rfl, hb4⟩; have hb4' := below_via hd0 hb4; have hlt4 : w.heap.size < wr.heap.size := Nat.lt_of_lt_of_le hlt2 hsz; have e4 := (hb4'.block _ hlt4).trans ((HB.out.block _ hlt2).trans E2.out); obtain ⟨f11, f21, f31⟩ := str_cells e4; have hlt5 := lt_of_block e4; clear e4; have tk1 : True := trivial; dsimp only))
      all_goals
        go_wp2_with fail
        go_ret
        exact ⟨ret_bs (by rw [HR.out]), HBW.out.trans ((HB.out.trans ((hb4'.trans (hb5.mono hb4'.size)).mono hsz)).mono (Nat.le_of_lt hlt2))⟩
end Go.Proofs.YtmnekomoiffebaaDoor
