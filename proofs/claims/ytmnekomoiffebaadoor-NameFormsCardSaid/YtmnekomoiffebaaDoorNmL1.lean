/- The walk of stetlaw16.NameParses. -/
import Derived.Test.YtmnekomoiffebaaDoorRows
import Derived.Test.YtmnekomoiffebaaDoorNmFx
import Derived.Test.YtmnekomoiffebaaDoorNmMx
namespace Go.Proofs.YtmnekomoiffebaaDoor
open Go.RowKit Go.Lib Go.Sort Tx

theorem eqAt (p : P4) (w : World) : (Op.equalIn 10000 26 (.agg #[.string (bs p.first), .string (bs p.von), .string (bs p.last), .string (bs p.jr)]) (.agg #[.string (bs p.first), .string (bs p.von), .string (bs p.last), .string (bs p.jr)])).run Tryd.prog w = .ok true w := by
  have h := eq_pers p p w
  rw [eqP_self, run_eql_struct] at h
  generalize hr : (Op.equalIn 10000 26 (.agg #[.string (bs p.first), .string (bs p.von), .string (bs p.last), .string (bs p.jr)]) (.agg #[.string (bs p.first), .string (bs p.von), .string (bs p.last), .string (bs p.jr)])).run Tryd.prog w = r at *
  cases r with
  | ok x w2 => simp only [Result.andThen_ok] at h; injection h with h3 h4; injection h3 with h5; rw [h4, h5]
  | halt x w2 => simp [Result.andThen] at h
namespace Tx
theorem finA_length (s : List Bs × List Bs) : (finA s).length ≤ s.1.length + s.2.length := by
  unfold finA
  split
  · omega
  · rename_i h
    have := List.length_pos_iff.2 h
    simp; omega
theorem splitN_length (l : List Bs) : (splitN l).length ≤ l.length := Nat.le_trans (finA_length _) (foldA_len l).1
end Tx
theorem Row.via {w w' : World} {v : Value} {l : List Bs} (h : Row vs w w.heap.size v l) (hb : Below w.heap.size w w') : Row vs w' w'.heap.size v l := h.step hb

set_option maxHeartbeats 2000000 in
theorem nameParses_any (a0 : ByteArray) (w : World) (hm : MaxL w) (w0 : a0.size ≤ maxLen) :
    Calls Tryd.prog 3 #[.string a0] w fun e w' => e = .returned (.bool true) ∧ Below w.heap.size w w' := by
  obtain ⟨l, rfl⟩ : ∃ l, a0 = bs l := ⟨_, (bs_of a0).symm⟩
  have hx := ext_minr l 200 (by omega)
  simp only [show (200 : Int).toNat = 200 from rfl] at hx
  have hs := bs_size l
  simp only [maxLen] at w0
  have i1 : (0 : Int) ≤ min ((bs l).size : Int) 200 := by omega
  have i2 : min ((bs l).size : Int) 200 ≤ ((bs l).size : Int) := by omega
  have hX : (bs (l.take 200)).size ≤ 200 := by rw [bs_size]; exact List.length_take_le _ _
  clear hs
  generalize l.take 200 = X at *
  have hwl := words_length X
  have hwl2 := splitN_length (words X)
  have hX2 : X.length ≤ 200 := by rw [← bs_size]; exact hX
  have eqx := eqAt (parse X)
  have hgu := rGuard
  have HM := Lib.hid hm
  clear hm
  go_enter Tryd.func3, Tryd.ntmps3
  go_wp2_with fail
  refine (words_any (bs X) _ (by omega)).mono ?_
  rintro e w1 ⟨v1, rfl, r1, b1⟩
  rw [bs_list] at r1
  go_wp2_with fail
  refine (rWords_any (bs X) _ (by omega)).mono ?_
  rintro e w2 ⟨v2, rfl, r2, b2⟩
  rw [bs_list] at r2
  have k2 := below_via b1 b2
  go_wp2_with fail
  refine (words2_any v1 v2 _ _ w2 (r1.via b2) r2.row (by omega) (by omega)).mono ?_
  rintro e w3 ⟨he, n3, rfl⟩
  rw [decide_eq_true rfl] at he
  subst he
  have k3 : Below w.heap.size w (w2.drewN n3) := below_drewN k2 n3
  clear r1 r2 b1 b2 k2
  generalize w2.drewN n3 = w3 at *
  go_wp2_with fail
  refine (split_any (bs X) _ (by omega)).mono ?_
  rintro e w4 ⟨v4, rfl, r4, b4⟩
  rw [bs_list] at r4
  go_wp2_with fail
  refine (rSplit_any (bs X) _ (by omega)).mono ?_
  rintro e w5 ⟨v5, rfl, r5, b5⟩
  rw [bs_list] at r5
  have k5 := below_via (below_via k3 b4) b5
  go_wp2_with fail
  refine (words2_any v4 v5 _ _ w5 (r4.row.via b5) r5.row (by omega) (by omega)).mono ?_
  rintro e w6 ⟨he, n6, rfl⟩
  rw [decide_eq_true rfl] at he
  subst he
  have k6 : Below w.heap.size w (w5.drewN n6) := below_drewN k5 n6
  clear r4 r5 b4 b5 k5 k3
  generalize w5.drewN n6 = w6 at *
  go_wp2_with fail
  refine (parse_any (bs X) _ (HM.out.below k6) (by omega)).mono ?_
  rintro e w7 ⟨rfl, b7⟩
  rw [bs_list]
  go_wp2_with fail
  refine (ref_any (parse X) _).mono ?_
  rintro e w8 ⟨rfl, b8⟩
  go_wp2_with fail
  refine (rparse_any (bs X) _ (by omega)).mono ?_
  rintro e w9 ⟨rfl, b9⟩
  rw [bs_list]
  have k9 := below_via (below_via (below_via k6 b7) b8) b9
  go_wp2_with fail
  refine (fixed_any _ (HM.out.below k9)).mono ?_
  rintro e w10 ⟨rfl, b10⟩
  go_wp2_with fail
  go_ret
  exact ⟨rfl, below_via k9 b10⟩
end Go.Proofs.YtmnekomoiffebaaDoor
