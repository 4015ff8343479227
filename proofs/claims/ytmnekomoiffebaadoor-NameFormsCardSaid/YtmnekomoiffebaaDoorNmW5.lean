/- The walk of name.Split. -/
import Derived.Test.YtmnekomoiffebaaDoorRows
import Derived.Test.YtmnekomoiffebaaDoorKit
import Derived.Test.YtmnekomoiffebaaDoorStr
import Derived.Test.YtmnekomoiffebaaDoorShelf
import Derived.Test.YtmnekomoiffebaaDoorNmW1
import Derived.Test.YtmnekomoiffebaaDoorNmW2
import Derived.Test.YtmnekomoiffebaaDoorNmW3
import Derived.Test.YtmnekomoiffebaaDoorNmW4
namespace Go.Proofs.YtmnekomoiffebaaDoor
open Go.RowKit Go.Lib Go.Sort Tx

def sliceLen (v : Value) : Nat := match v with | .slice _ n _ => n | _ => 0

set_option maxHeartbeats 2000000 in
theorem split_any (s : ByteArray) (w : World) (hs : s.size < 50000) :
    Calls Tryd.prog 12 #[.string s] w fun e w' => ∃ v, e = .returned v ∧ Txs w.heap.size w' v (splitN (words s.data.toList)) ∧ Below w.heap.size w w' := by
  obtain ⟨T, hT⟩ : ∃ T, T = splitN (words s.data.toList) := ⟨_, rfl⟩
  have h1 := words_length s.data.toList
  have h2 := words_sum s.data.toList
  rw [size_list] at h1 h2
  rw [← hT]
  have HT := Lib.hid hT
  clear hT
  go_enter Tryd.func12, Tryd.ntmps12
  go_wp2_with fail
  refine (words_any s w (by omega)).mono ?_
  rintro e w1 ⟨v, rfl, hr, hb⟩
  go_wp2_with fail
  go_loopw [3, 4] (fun o v wr => ∃ ys rest : List Bs, Txs w1.heap.size wr o ys ∧ Row vs wr w1.heap.size v rest ∧ finA (rest.foldl stA (ys, [])) = T ∧ ys.length + rest.length < 100000 ∧ (rest.map List.length).sum < 100000 ∧ Below w1.heap.size w1 wr) (fun _ v _ => sliceLen v)
  case atStart => exact ⟨[], _, Txs.nil _ _, hr, HT.out.symm, by simp; omega, by omega, Below.refl _ _⟩
  case round =>
    obtain ⟨ys, rest, ho, hrow, hf, hl, hsum, hbel⟩ := hrel
    obtain ⟨A, cap, rfl, q1, q2, q3⟩ := hrow.shape
    have HR0 := Lib.hid hrow
    have HR := Lib.hid (hrow.more hbel.size)
    have HB := Lib.hid hb
    have HO := Lib.hid ho
    clear hr hb q3 h1 h2
    by_cases hne : rest = []
    · subst hne
      have HF : Hid (ys = T) := by show _ = _; rw [← hf]; simp [finA]
      clear hf
      go_wp2_with fail
      go_ret
      exact ⟨_, rfl, by rw [← HF.out]; exact HO.out.mono HB.out.size, below_via HB.out hbel⟩
    · have hpos : (0 : Int) < (rest.length : Int) := by have := List.length_pos_iff.2 hne; omega
      rcases first_and rest with hm | ⟨k, hk, he, hm⟩
      · have HF : Hid (ys ++ [Tx.join rest] = T) := by show _ = _; rw [← hf, finA_none _ _ hm, if_neg hne]
        have hj := join_length rest
        have HM := Lib.hid hm
        clear hf hm
        go_wp2_with fail
        refine (index_miss _ rest _ HR.out (by omega) HM.out).mono ?_
        rintro e w2 ⟨rfl, rfl⟩
        go_wp2_with fail
        refine (join_any _ rest _ HR.out (by omega) (by omega)).mono ?_
        rintro e w2 ⟨rfl, hb2⟩
        go_wp2_with (at_builtin; refine app_text rfl (.tmp 15) (.tmp 18) rfl w1.heap.size _ _ _ rfl rfl (HO.out.below hb2) (Nat.le_trans hbel.size hb2.size) (by omega) ?_; intro v' w3 h8 h9 h10)
        go_ret
        exact ⟨_, rfl, by rw [← HF.out]; exact h8.mono HB.out.size, below_via HB.out ((hbel.trans (hb2.mono hbel.size)).trans h9)⟩
      · have hf' := finA_some ys rest k hk he hm
        rw [hf] at hf'
        have HM := Lib.hid hm
        have HE := Lib.hid he
        have HF := Lib.hid hf'
        have hj := join_take rest k
        have hsd := (sum_take rest (k + 1)).2
        clear hf hm he hf'
        have i1 : (k : Int) + 1 ≤ (rest.length : Int) := by omega
        by_cases hk0 : k = 0
        · subst hk0
          have HF' : Hid (finA ((rest.drop 1).foldl stA (ys, [])) = T) := HF.out.symm
          go_wp2_with fail
          refine (index_hit _ rest _ HR.out (by omega) 0 hk HE.out HM.out).mono ?_
          rintro e w2 ⟨rfl, rfl⟩
          go_wp2_with fail
          have hc := row_cut HR0.out (n := 1) (by omega) _ _ _ rfl
          go_roundw
          case rel => exact ⟨ys, rest.drop 1, HO.out, hc, HF', by simp; omega, by rw [Nat.zero_add] at hsd; omega, hbel⟩
          case measure => simp [sliceLen]; omega
        · have HF' : Hid (finA ((rest.drop (k + 1)).foldl stA (ys ++ [Tx.join (rest.take k)], [])) = T) := by show _ = _; rw [HF.out, if_neg hk0]
          have i2 : (0 : Int) < (k : Int) := by omega
          have i3 : (k : Int) ≤ (rest.length : Int) := by omega
          have hct := HR.out.cutTo (n := k) (by omega)
          have HCT := Lib.hid hct
          clear hct
          go_wp2_with fail
          refine (index_hit _ rest _ HR.out (by omega) k hk HE.out HM.out).mono ?_
          rintro e w2 ⟨rfl, rfl⟩
          go_wp2_with fail
          refine (join_any _ (rest.take k) _ HCT.out (by omega) (by simp; omega)).mono ?_
          rintro e w2 ⟨rfl, hb2⟩
          go_wp2_with (at_builtin; refine app_text rfl (.tmp 22) (.tmp 27) rfl w1.heap.size _ _ _ rfl rfl (HO.out.below hb2) (Nat.le_trans hbel.size hb2.size) (by omega) ?_; intro v' w3 h8 h9 h10)
          have hc := row_cut ((HR0.out.below hb2 hbel.size).below h9 (Nat.le_refl _)) (n := k + 1) (by omega) _ _ _ rfl
          go_roundw
          case rel => exact ⟨_, rest.drop (k + 1), h8, hc, HF', by simp; omega, by omega, (hbel.trans (hb2.mono hbel.size)).trans h9⟩
          case measure => simp [sliceLen]; omega
end Go.Proofs.YtmnekomoiffebaaDoor
