/- The walks of name.small, last, vonLast, Split. -/
import Derived.Test.YtmnekomoiffebaaDoorRows
import Derived.Test.YtmnekomoiffebaaDoorKit
import Derived.Test.YtmnekomoiffebaaDoorStr
import Derived.Test.YtmnekomoiffebaaDoorShelf
import Derived.Test.YtmnekomoiffebaaDoorNmW1
import Derived.Test.YtmnekomoiffebaaDoorNmW2
import Derived.Test.YtmnekomoiffebaaDoorNmW3
namespace Go.Proofs.YtmnekomoiffebaaDoor
open Go.RowKit Go.Lib Go.Sort Tx

theorem sm_cons (c : UInt8) (r : Bs) : sm (c :: r) = (decide (97 ≤ c.toNat) && decide (c.toNat ≤ 122)) := rfl
theorem sm_yes {c : UInt8} {r : Bs} (h : 97 ≤ (c.toNat : Int)) : decide ((c.toNat : Int) ≤ 122) = sm (c :: r) := by
  rw [sm_cons, decide_eq_true (show 97 ≤ c.toNat by omega), Bool.true_and]
  exact decide_eq_decide.2 (by omega)
theorem sm_no {c : UInt8} {r : Bs} (h : (c.toNat : Int) < 97) : false = sm (c :: r) := by
  rw [sm_cons, decide_eq_false (show ¬ 97 ≤ c.toNat by omega), Bool.false_and]
set_option maxHeartbeats 400000 in
theorem small_any (c : UInt8) (r : Bs) (w : World) : Calls Tryd.prog 39 #[vs (c :: r)] w fun e w' => e = .returned (.bool (sm (c :: r))) ∧ w = w' := by
  have hs : (bs (c :: r)).size = r.length + 1 := by rw [bs_size]; rfl
  have h0 : ((bs (c :: r))[0]'(by omega)) = c := by rfl
  unfold vs
  go_enter Tryd.func39, Tryd.ntmps39
  go_wp2
  all_goals go_ret
  · exact ⟨ret_bool (sm_yes ‹_›), rfl⟩
  · exact ⟨ret_bool (sm_no ‹_›), rfl⟩
theorem small_at (x : Bs) (hx : x ≠ []) (w : World) : Calls Tryd.prog 39 #[vs x] w fun e w' => e = .returned (.bool (sm x)) ∧ w = w' := by
  cases x with
  | nil => exact absurd rfl hx
  | cons c r => exact small_any c r w

set_option maxHeartbeats 400000 in
theorem last_any (v : Value) (l : List Bs) (w : World) (h : Row vs w w.heap.size v l) (hn : l.length < 1000000) (hne : ∀ x ∈ l, x ≠ []) :
    Calls Tryd.prog 37 #[v] w fun e w' => e = .returned (.int .i64 (lastS l : Nat)) ∧ w = w' := by
  obtain ⟨A, cap, rfl, h1, h2, h3⟩ := h.shape
  have H3 := Lib.hid h3
  have HNE := Lib.hid hne
  clear h h3 hne
  go_enter Tryd.func37, Tryd.ntmps37
  go_wp2_with fail
  go_loop [3] (fun i => ∃ z : Int, -2 ≤ z ∧ z + 2 ≤ l.length ∧ i = .int .i64 z ∧ lastUp l (z + 1).toNat = lastS l) (fun i => (intOf i + 1).toNat)
  case atStart => exact ⟨(l.length : Int) - 2, by omega, by omega, rfl, by unfold lastS; congr 1; omega⟩
  case round =>
    obtain ⟨z, hz, hz2, rfl, hl⟩ := hrel
    by_cases h0 : 0 ≤ z
    · obtain ⟨k, rfl⟩ : ∃ k : Nat, z = (k : Int) := ⟨z.toNat, by omega⟩
      have hk : k < l.length := by omega
      obtain ⟨b, off, rfl, hb, hc⟩ := H3.out (by rintro rfl; simp at hk)
      have hck := hc k hk
      have hx := HNE.out _ (List.getElem_mem hk)
      have hki : (k : Int) < (l.length : Int) := by omega
      have HL : Hid ((if sm l[k] then k + 1 else lastUp l k) = lastS l) := by
        show _ = _
        rw [← hl, show ((k : Int) + 1).toNat = k + 1 by omega, lastUp, List.getElem?_eq_getElem hk]
        rfl
      clear hc hl
      generalize l[k] = x at *
      cases hsm : sm x with
      | true =>
        have HS := Lib.hid hsm
        clear hsm
        go_wp2_with fail
        refine (small_at x hx _).mono ?_
        rw [HS.out]
        rintro e w1 ⟨rfl, rfl⟩
        go_wp2_with fail
        go_ret
        refine ⟨ret_int ?_, rfl⟩
        rw [← HL.out, HS.out]
        simp
      | false =>
        have HS := Lib.hid hsm
        clear hsm
        go_wp2_with fail
        refine (small_at x hx _).mono ?_
        rw [HS.out]
        rintro e w1 ⟨rfl, rfl⟩
        go_wp2_with fail
        go_round
        case rel => exact ⟨(k : Int) - 1, by omega, by omega, rfl, by rw [← HL.out, HS.out, show ((k : Int) - 1 + 1).toNat = k by omega]; rfl⟩
        case measure => simp [intOf]
    · have HL : Hid (0 = lastS l) := by
        show _ = _
        rw [← hl, show (z + 1).toNat = 0 by omega, lastUp]
      clear hl
      go_wp2_with fail
      go_ret
      exact ⟨ret_int (by rw [← HL.out]; rfl), rfl⟩

theorem below_via {a x y : World} (h : Below a.heap.size a x) (hb : Below x.heap.size x y) : Below a.heap.size a y := h.trans (hb.mono h.size)
/-- Pieces of a row, as the walks cut them. -/
theorem Row.cutTo {w : World} {B n : Nat} {A : Option Addr} {m c : Nat} {xs : List Bs} (h : Row vs w B (.slice A m c) xs) (hn : n ≤ xs.length) : Row vs w B (.slice (slAddr A 0 c 1) (n - 0) (c - 0)) (xs.take n) := by
  have := row_cut2 h (n := 0) (m := n) (Nat.zero_le _) hn A m c rfl
  simpa using this

theorem sum_take (l : List Bs) (n : Nat) : ((l.take n).map List.length).sum ≤ (l.map List.length).sum ∧ ((l.drop n).map List.length).sum ≤ (l.map List.length).sum := by
  have := congrArg List.sum (List.take_append_drop n (l.map List.length))
  rw [List.sum_append] at this
  rw [List.map_take, List.map_drop]
  omega
theorem join_take (l : List Bs) (n : Nat) : (Tx.join (l.take n)).length ≤ (l.map List.length).sum + l.length := by
  have h1 := join_length (l.take n)
  have h2 := (sum_take l n).1
  have : (l.take n).length ≤ l.length := by simp; omega
  omega
theorem join_drop (l : List Bs) (n : Nat) : (Tx.join (l.drop n)).length ≤ (l.map List.length).sum + l.length := by
  have h1 := join_length (l.drop n)
  have h2 := (sum_take l n).2
  have : (l.drop n).length ≤ l.length := by simp
  omega

set_option maxHeartbeats 1000000 in
theorem vonLast_any (v : Value) (l : List Bs) (w : World) (h : Row vs w w.heap.size v l) (hn : l.length < 100000) (hs : (l.map List.length).sum < 100000) (hne : ∀ x ∈ l, x ≠ []) :
    Calls Tryd.prog 36 #[v] w fun e w' => e = .returned (.tuple #[vs (Tx.join (l.take (lastS l))), vs (Tx.join (l.drop (lastS l)))]) ∧ Below w.heap.size w w' := by
  obtain ⟨A, cap, rfl, h1, h2, h3⟩ := h.shape
  have HR := Lib.hid h
  have hk := lastS_le l
  have hj1 := join_take l (lastS l)
  have hj2 := join_drop l (lastS l)
  have hlast := Lib.hid (last_any _ l w h (by omega) hne)
  clear h h3 hne
  generalize lastS l = k at *
  have i1 : (0 : Int) ≤ (k : Int) := by omega
  have i2 : (k : Int) ≤ (l.length : Int) := by omega
  have i3 : (l.length : Int) ≤ (cap : Int) := by omega
  have i4 : (k : Int) ≤ (cap : Int) := by omega
  go_enter Tryd.func36, Tryd.ntmps36
  go_wp2_with fail
  refine hlast.out.mono ?_
  rintro e w1 ⟨rfl, rfl⟩
  go_wp2_with fail
  have hb0 : Below w.heap.size w w.drew := (Below.refl _ _).drew
  have r1 := fun w' (hb : Below w.heap.size w w') => (Row.step HR.out hb).cutTo hk
  have r2 := fun w' (hb : Below w.heap.size w w') => row_cut (Row.step HR.out hb) hk _ _ _ rfl
  have R1 := Lib.hid r1
  have R2 := Lib.hid r2
  clear r1 r2
  go_region_held3 (fun wx => Below w.heap.size w wx) (first | assumption) (first
    | (have x := hb2; go_at_call 34; refine (join_any _ (l.drop k) _ (R2.out _ hb2) (by omega) (by simp; omega)).mono ?_; rintro e w3 ⟨rfl, hb3'⟩; have hb3 := below_via hb2 hb3'; dsimp only)
    | (go_at_call 34; refine (join_any _ (l.take k) _ (R1.out _ hb0) (by omega) (by simp; omega)).mono ?_; rintro e w2 ⟨rfl, hb2'⟩; have hb2 := below_via hb0 hb2'; dsimp only))
  all_goals
    go_wp2_with fail
    go_ret2
    exact ⟨rfl, hb3⟩
end Go.Proofs.YtmnekomoiffebaaDoor
