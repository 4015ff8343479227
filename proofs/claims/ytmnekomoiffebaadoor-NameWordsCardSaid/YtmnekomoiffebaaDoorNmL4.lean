/- The walk of stetlaw16.NameWords. -/
import Derived.Test.YtmnekomoiffebaaDoorRows
import Derived.Test.YtmnekomoiffebaaDoorNmFx
import Derived.Test.YtmnekomoiffebaaDoorNmMx
import Derived.Test.YtmnekomoiffebaaDoorNmL1
import Derived.Test.YtmnekomoiffebaaDoorNmL3
import Derived.Test.YtmnekomoiffebaaDoorAppRow
namespace Go.Proofs.YtmnekomoiffebaaDoor
open Go.RowKit Go.Lib Go.Sort Tx

theorem beq_bs (x : Bs) : ((bs x).toList == (bs x).toList) = true := by simp
namespace Tx
theorem bl_three (c : UInt8) (h : bl c = true) : (c.toNat : Int) = 32 ∨ (c.toNat : Int) = 9 ∨ (c.toNat : Int) = 10 := by
  simp only [bl, Bool.or_eq_true, beq_iff_eq] at h
  rcases h with (rfl | rfl) | rfl
  · exact .inl rfl
  · exact .inr (.inl rfl)
  · exact .inr (.inr rfl)
theorem dense_step (X : Bs) (k : Nat) (h : k < X.length) : dense (X.take (k + 1)) = if bl X[k] then dense (X.take k) else dense (X.take k) ++ [X[k]] := by
  rw [List.take_succ_eq_append_getElem h, dense_snoc]
theorem flat_take (l : List Bs) (k : Nat) (h : k < l.length) : (l.take (k + 1)).flatten = (l.take k).flatten ++ l[k] := by
  rw [List.take_succ_eq_append_getElem h, List.flatten_append]
  simp
theorem flat_le (l : List Bs) (k : Nat) : ((l.take k).flatten).length ≤ (l.map List.length).sum := by
  rw [List.length_flatten]
  exact (sum_take l k).1
theorem and_text (X Y : Bs) : bs X ++ (⟨#[32, 97, 110, 100, 32]⟩ : ByteArray) ++ bs Y = bs (X ++ 32 :: 97 :: 110 :: 100 :: 32 :: Y) := by
  rw [show (⟨#[32, 97, 110, 100, 32]⟩ : ByteArray) = bs [32, 97, 110, 100, 32] from rfl, bs_append, bs_append]
  simp
end Tx

set_option maxHeartbeats 8000000 in
theorem nameWords_any (a0 a1 : ByteArray) (w : World) (hm : MaxL w) (w0 : a0.size ≤ maxLen) (w1 : a1.size ≤ maxLen) :
    Calls Tryd.prog 6 #[.string a0, .string a1] w fun e w' => e = .returned (.bool true) ∧ Below w.heap.size w w' := by
  obtain ⟨l, rfl⟩ : ∃ l, a0 = bs l := ⟨_, (bs_of a0).symm⟩
  obtain ⟨l2, rfl⟩ : ∃ l, a1 = bs l := ⟨_, (bs_of a1).symm⟩
  have hx := ext_minr l 200 (by omega)
  have hy := ext_minr l2 200 (by omega)
  simp only [show (200 : Int).toNat = 200 from rfl] at hx hy
  have hs := bs_size l
  have hs2 := bs_size l2
  simp only [maxLen] at w0 w1
  have i1 : (0 : Int) ≤ min ((bs l).size : Int) 200 := by omega
  have i2 : min ((bs l).size : Int) 200 ≤ ((bs l).size : Int) := by omega
  have j1 : (0 : Int) ≤ min ((bs l2).size : Int) 200 := by omega
  have j2 : min ((bs l2).size : Int) 200 ≤ ((bs l2).size : Int) := by omega
  have hX2 : (l.take 200).length ≤ 200 := List.length_take_le _ _
  have hY2 : (l2.take 200).length ≤ 200 := List.length_take_le _ _
  clear hs hs2
  generalize l.take 200 = X at *
  generalize l2.take 200 = Y at *
  have hX : (bs X).size = X.length := bs_size X
  have hY : (bs Y).size = Y.length := bs_size Y
  obtain ⟨q1, q2, q3, q4⟩ := words_lens X
  have HM := Lib.hid hm
  have Q4 := Lib.hid q4
  clear hm q4
  obtain ⟨i0, hi0, hz0, hz1, hz2⟩ := info_parts strInfo
  have HI := Lib.hid (And.intro hi0 (And.intro hz0 (And.intro hz1 hz2)))
  clear hi0 hz0 hz1 hz2
  go_enter Tryd.func6, Tryd.ntmps6
  go_wp2_with fail
  refine (words_any (bs X) _ (by omega)).mono ?_
  rintro e x1 ⟨v1, rfl, r1, b1⟩
  rw [bs_list] at r1
  obtain ⟨A1, e1, rfl, m1, m2, H3⟩ := r1.shape
  have R1 := Lib.hid r1
  have K1 := Lib.hid b1
  replace HM := Lib.hid (HM.out.below b1)
  have H3 := Lib.hid H3
  clear b1 r1 m1 m2
  go_upto_block 0 with fail
  go_cut [6] (fun t wx => t = .string (bs (dense X)) ∧ x1 = wx)
  case first =>
    go_wp2_with fail
    go_loop [6, 7] (fun t i => ∃ k : Nat, k ≤ X.length ∧ i = .int .i64 k ∧ t = .string (bs (dense (X.take k)))) (fun _ i => X.length - (intOf i).toNat)
    case atStart => exact ⟨0, Nat.zero_le _, rfl, rfl⟩
    case round =>
      obtain ⟨k, hk, rfl, rfl⟩ := hrel
      by_cases hlt : k < X.length
      · have hx1 : (k : Int) < (X.length : Int) := by omega
        have hltb : k < (bs X).size := by omega
        have hxb : (k : Int) < ((bs X).size : Int) := by omega
        have hgb : (bs X)[k]'hltb = X[k] := rfl
        have hone := one_at X k hlt
        have HS := Lib.hid (dense_step X k hlt)
        have hdl := dense_length (X.take k)
        have htl : (X.take k).length ≤ 200 := by simp; omega
        generalize X[k] = c at *
        generalize dense (X.take k) = t at *
        have hz1 : (bs t).size + (bs [c]).size ≤ 9223372036854775807 := by rw [bs_size, bs_size]; simp; omega
        cases hc : bl c with
        | true =>
          have hci := bl_three c hc
          replace HS : Hid (dense (X.take (k + 1)) = t) := by show _ = _; rw [HS.out, if_pos hc]
          clear hc
          rcases hci with hci | hci | hci
          all_goals
            go_wp2_with fail
            go_round
            case rel => exact ⟨k + 1, by omega, by go_num, by rw [HS.out]⟩
            case measure => simp [intOf]; omega
        | false =>
          obtain ⟨hci, hci2, hci3⟩ := not_bl (n := c.toNat) (.inl rfl) hc
          simp only [beq_eq_false_iff_ne] at hci hci2 hci3
          have n1 : ((c.toNat : Int) != 32) = true := by simp [hci]
          have n2 : ((c.toNat : Int) != 9) = true := by simp [hci2]
          have n3 : ((c.toNat : Int) != 10) = true := by simp [hci3]
          replace HS : Hid (dense (X.take (k + 1)) = t ++ [c]) := by show _ = _; rw [HS.out, if_neg (by simp [hc])]
          clear hc
          go_wp2_with fail
          go_round
          case rel => exact ⟨k + 1, by omega, by go_num, by rw [HS.out, bs_append]⟩
          case measure => simp [intOf]; omega
      · obtain rfl : k = X.length := by omega
        go_wp2_with fail
        go_meet
        exact ⟨by simp, rfl⟩
  case rest =>
    obtain ⟨rfl, rfl⟩ := hcut
    go_upto_block 2 with fail
    go_cut [8] (fun t wx => t = .string (bs (dense X)) ∧ x1 = wx)
    case first =>
      go_wp2_with fail
      go_loop [8, 9] (fun t i => ∃ k : Nat, k ≤ (words X).length ∧ i = .int .i64 k ∧ t = .string (bs ((words X).take k).flatten)) (fun _ i => (words X).length - (intOf i).toNat)
      case atStart => exact ⟨0, Nat.zero_le _, rfl, rfl⟩
      case round =>
        obtain ⟨k, hk, rfl, rfl⟩ := hrel
        by_cases hlt : k < (words X).length
        · obtain ⟨b, off, rfl, hb, hc⟩ := H3.out (by intro h; rw [h] at hlt; simp at hlt)
          have hck := hc k hlt
          have hx1 : (k : Int) < ((words X).length : Int) := by omega
          have HS := Lib.hid (flat_take (words X) k hlt)
          have hfl := flat_le (words X) k
          have hfl2 := flat_le (words X) (k + 1)
          rw [HS.out] at hfl2
          have hne := Q4.out _ (List.getElem_mem hlt)
          generalize (words X)[k]'hlt = x at *
          generalize ((words X).take k).flatten = t at *
          have hemp : (bs x).toList.isEmpty = false := by rw [emp]; cases x <;> simp at hne ⊢
          have hemp2 : ¬ (bs x).toList = [] := by rw [toList_bs]; exact hne
          rw [List.length_append] at hfl2
          have hz1 : (bs t).size + (bs x).size ≤ 9223372036854775807 := by rw [bs_size, bs_size]; omega
          clear hc hne
          go_wp2_with fail
          go_round
          case rel => exact ⟨k + 1, by omega, by go_num, by rw [HS.out, bs_append]⟩
          case measure => simp [intOf]; omega
        · obtain rfl : k = (words X).length := by omega
          have HF := Lib.hid (words_flat X)
          go_wp2_with fail
          go_meet
          exact ⟨by first | (rw [List.take_length, HF.out]) | (rw [HF.out]), rfl⟩
    case rest =>
      obtain ⟨rfl, rfl⟩ := hcut
      have hat := and_text X Y
      have HSP := Lib.hid (split_and X Y)
      have HWJ := Lib.hid (words_join (words X) (words_clean X))
      have sX := splitN_length (words X)
      have sY := splitN_length (words Y)
      have wX := words_length X
      have wY := words_length Y
      have hbq := beq_bs (dense X)
      have hz3 : (bs X).size + (⟨#[32, 97, 110, 100, 32]⟩ : ByteArray).size ≤ 9223372036854775807 := by have : (⟨#[32, 97, 110, 100, 32]⟩ : ByteArray).size = 5 := rfl; omega
      have hz4 : (bs X ++ (⟨#[32, 97, 110, 100, 32]⟩ : ByteArray)).size + (bs Y).size ≤ 9223372036854775807 := by have : (⟨#[32, 97, 110, 100, 32]⟩ : ByteArray).size = 5 := rfl; rw [ByteArray.size_append]; omega
      have hz5 : (bs (X ++ 32 :: 97 :: 110 :: 100 :: 32 :: Y)).size < 50000 := by rw [bs_size]; simp; omega
      go_wp2_with fail
      refine (split_any (bs X) _ (by omega)).mono ?_
      rintro e x2 ⟨v2, rfl, r2, b2⟩
      rw [bs_list] at r2
      have R2 := Lib.hid r2
      replace R1 := Lib.hid (R1.out.via b2)
      replace K1 := Lib.hid (below_via K1.out b2)
      replace HM := Lib.hid (HM.out.below b2)
      clear r2 b2
      go_wp2_with fail
      refine (split_any (bs Y) _ (by omega)).mono ?_
      rintro e x3 ⟨v3, rfl, r3, b3⟩
      rw [bs_list] at r3
      have R3 := Lib.hid r3
      replace R2 := Lib.hid (R2.out.below b3)
      replace R1 := Lib.hid (R1.out.via b3)
      replace K1 := Lib.hid (below_via K1.out b3)
      replace HM := Lib.hid (HM.out.below b3)
      clear r3 b3
      go_wp2_with fail
      refine (split_any (bs (X ++ 32 :: 97 :: 110 :: 100 :: 32 :: Y)) _ hz5).mono ?_
      rintro e x4 ⟨v4, rfl, r4, b4⟩
      rw [bs_list, HSP.out] at r4
      have R4 := Lib.hid r4
      replace R3 := Lib.hid (R3.out.below b4)
      replace R2 := Lib.hid (R2.out.below b4)
      replace R1 := Lib.hid (R1.out.via b4)
      replace K1 := Lib.hid (below_via K1.out b4)
      replace HM := Lib.hid (HM.out.below b4)
      clear r4 b4 hat hz3 hz4 hz5
      have hmade : (x4.alloc (.cells #[] 9)).ownsRow x4.heap.size 9 1 (.slice (some ⟨x4.heap.size, 0, none⟩) 0 0) 0 [] := World.ownsRow_made x4 #[] 0 (Nat.le_refl _) (by decide) (e := 9) (size := 1) rfl
      have hba : Below x4.heap.size x4 (x4.alloc (.cells #[] 9)) := (Below.refl _ _).alloc (Nat.le_refl _) _
      have HB := Lib.hid hba
      clear hba
      have hl0 : (splitN (words X)).length ≤ 201 := by omega
      have hl1 : (splitN (words Y)).length ≤ 201 := by omega
      go_upto_region 18 with (at_builtin; refine wpList_appRow rfl (.tmp 81) (.tmp 82) 23 rfl x4.heap.size 9 i0 _ 1 16 Tryd.underlying23 HI.out.1 HI.out.2.1 HI.out.2.2.1 HI.out.2.2.2 rfl (by decide) _ 0 [] rfl hmade (by simp) _ rfl _ _ (src_own (R2.out.below HB.out)) (by simp [Value.oneCell']) (by simp only [maxLen]; omega) (by omega) ?_; intro v5 x5 o5 g5 a5)
      have hb5 : Below x4.heap.size x4 x5 := HB.out.trans (grown_below hmade (by simp) g5)
      have o5' : x5.ownsRow x4.heap.size 9 1 v5 (splitN (words X)).length ((splitN (words X)).map vs) := by simpa using o5
      replace R3 := Lib.hid (R3.out.below hb5)
      have hz := hb5.size
      clear hmade HB R2 o5 g5 a5
      go_upto_region 19 with (at_builtin; refine wpList_appRow rfl (.tmp 84) (.tmp 85) 23 rfl x4.heap.size 9 i0 _ 1 16 Tryd.underlying23 HI.out.1 HI.out.2.1 HI.out.2.2.1 HI.out.2.2.2 rfl (by decide) _ (splitN (words X)).length ((splitN (words X)).map vs) rfl o5' hz _ rfl _ _ (src_own R3.out) (by simp [Value.oneCell']) (by simp only [maxLen]; omega) (by omega) ?_; intro v6 x6 o6 g6 a6)
      have o6' : Txs x4.heap.size x6 v6 (splitN (words X) ++ splitN (words Y)) := by simpa [Txs] using o6
      have hb6 : Below x4.heap.size x4 x6 := hb5.trans (grown_below o5' hz g6)
      replace R4 := Lib.hid (R4.out.below hb6).row
      replace R1 := Lib.hid (R1.out.via hb6)
      replace K1 := Lib.hid (below_via K1.out hb6)
      replace HM := Lib.hid (HM.out.below hb6)
      have R6 := Lib.hid o6'.row
      clear hb5 o5' hz R3 o6 g6 a6 o6' hb6
      go_wp2_with fail
      refine (rJoin_any _ (words X) _ R1.out (by omega) (by omega)).mono ?_
      rintro e y1 ⟨rfl, rfl⟩
      go_wp2_with fail
      refine (words_any (bs (Tx.join (words X))) _ (by rw [bs_size]; omega)).mono ?_
      rintro e y2 ⟨v7, rfl, r7, b7⟩
      rw [bs_list, HWJ.out] at r7
      replace R1 := Lib.hid (R1.out.via b7)
      replace R4 := Lib.hid (R4.out.via b7)
      replace R6 := Lib.hid (R6.out.via b7)
      replace K1 := Lib.hid (below_via K1.out b7)
      replace HM := Lib.hid (HM.out.below b7)
      have R7 := Lib.hid r7
      clear b7 r7
      go_wp2_with fail
      refine (words2_any v7 _ _ _ y2 R7.out R1.out (by omega) (by omega)).mono ?_
      rintro e y3 ⟨he, n3, rfl⟩
      rw [decide_eq_true rfl] at he
      subst he
      have bd := below_drewN (Below.refl y2.heap.size y2) n3
      replace R4 := Lib.hid (R4.out.via bd)
      replace R6 := Lib.hid (R6.out.via bd)
      replace K1 := Lib.hid (below_via K1.out bd)
      replace HM := Lib.hid (HM.out.below bd)
      clear bd R7 R1
      generalize y2.drewN n3 = y3 at *
      go_wp2_with fail
      refine (words2_any v4 v6 _ _ y3 R4.out R6.out (by rw [List.length_append]; omega) (by rw [List.length_append]; omega)).mono ?_
      rintro e y4 ⟨he, n4, rfl⟩
      rw [decide_eq_true rfl] at he
      subst he
      have bd := below_drewN (Below.refl y3.heap.size y3) n4
      replace K1 := Lib.hid (below_via K1.out bd)
      replace HM := Lib.hid (HM.out.below bd)
      clear bd R4 R6
      generalize y3.drewN n4 = y4 at *
      go_wp2_with fail
      refine (fixed_any _ HM.out).mono ?_
      rintro e y5 ⟨rfl, b9⟩
      go_wp2_with fail
      go_ret
      exact ⟨rfl, below_via K1.out b9⟩
end Go.Proofs.YtmnekomoiffebaaDoor
