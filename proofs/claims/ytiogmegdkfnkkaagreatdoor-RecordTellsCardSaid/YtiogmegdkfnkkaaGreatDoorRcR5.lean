/- The reference's part; the plain steps of its one. -/
import Derived.Test.YtiogmegdkfnkkaaGreatDoorRcR4
import Derived.Test.YtiogmegdkfnkkaaGreatDoorRcCut
import Derived.Test.YtiogmegdkfnkkaaGreatDoorQ11
import Derived.Test.YtiogmegdkfnkkaaGreatDoorQ10
namespace Go.Proofs.YtiogmegdkfnkkaaGreatDoor
open Go.RowKit Tx

def seenR (n st : Bs) : Rc.Seen := if st = [45] ∨ st = [] then (n, false, []) else (n, true, st.drop 1)
theorem part_in (l : List Bs) (i : Nat) (h : i < l.length) : Rc.part l i = l[i] := by unfold Rc.part; rw [List.getElem?_eq_getElem h]; rfl
theorem part_out (l : List Bs) (i : Nat) (h : l.length ≤ i) : Rc.part l i = [] := by unfold Rc.part; rw [List.getElem?_eq_none h]; rfl
theorem seens_step : ∀ (l : List Bs) (j : Nat) (h : 2 * j < l.length), (Rc.seens l).take (j + 1) = (Rc.seens l).take j ++ [seenR l[2 * j] (Rc.part l (2 * j + 1))]
  | [], j, h => by simp at h
  | [n], j, h => by
    have : j = 0 := by simp at h; omega
    subst this
    rfl
  | n :: st :: r, 0, _ => by
    simp only [Rc.seens, List.take_succ_cons, List.take_zero, List.nil_append, Nat.mul_zero, List.getElem_cons_zero]
    rfl
  | n :: st :: r, j + 1, h => by
    have h2 : 2 * j < r.length := by simp at h; omega
    have ih := seens_step r j h2
    simp only [Rc.seens, List.take_succ_cons, List.cons_append]
    rw [ih]
    congr 2
theorem seens_len : ∀ l : List Bs, (Rc.seens l).length = (l.length + 1) / 2
  | [] => rfl
  | [n] => by simp [Rc.seens]
  | n :: st :: r => by
    simp only [Rc.seens, List.length_cons]
    rw [seens_len r]
    omega
set_option maxHeartbeats 4000000 in
theorem rpart_any (v : Value) (l : List Bs) (i : Nat) (w : World) (hr : Row vs w w.heap.size v l) (hn : l.length ≤ 1000000000) (hi : i ≤ 1000000000) :
    Calls Tryz.prog 37 #[v, .int .i64 i] w fun e w' => e = .returned (vs (Rc.part l i)) ∧ w = w' := by
  obtain ⟨A, cap, rfl, c1, c2, c3⟩ := hr.shape
  by_cases h : i < l.length
  · rw [part_in l i h]
    obtain ⟨b, off, rfl, hbl, hc⟩ := c3 (by rintro rfl; simp at h)
    have k1 := hc i h
    generalize l[i] = x at *
    have i0 : (0 : Int) ≤ (i : Int) := by omega
    have i1 : (i : Int) < (l.length : Int) := by omega
    have i2 : ¬ (l.length : Int) ≤ (i : Int) := by omega
    clear hc c3 hr
    go_enter Tryz.func37, Tryz.ntmps37
    go_wp2_with fail
    go_ret
    exact ⟨rfl, rfl⟩
  · rw [part_out l i (by omega)]
    have i2 : (l.length : Int) ≤ (i : Int) := by omega
    clear c3 hr
    go_enter Tryz.func37, Tryz.ntmps37
    go_wp2_with fail
    go_ret
    exact ⟨rfl, rfl⟩
end Go.Proofs.YtiogmegdkfnkkaaGreatDoor
