/- The walk of stetlaw16.NameBack. -/
import Derived.Test.YtmnekomoiffebaaDoorRows
import Derived.Test.YtmnekomoiffebaaDoorNmFx
import Derived.Test.YtmnekomoiffebaaDoorNmMx
import Derived.Test.YtmnekomoiffebaaDoorNmL1
import Derived.Test.YtmnekomoiffebaaDoorNmPl
namespace Go.Proofs.YtmnekomoiffebaaDoor
open Go.RowKit Go.Lib Go.Sort Tx

theorem nUnder : Tryd.prog.underlying 28 = some (.struct (Tryd.prog.fieldsOf 28)) := by kernel_rfl
theorem nStood : Tryd.prog.stoodInHeld 28 = false := by kernel_rfl
theorem nGuard : Tryd.prog.eqGuardType Tryd.prog.depth 28 = false := by kernel_rfl
theorem nFields : (Tryd.prog.fieldsOf 28).toList.map (fun f => (f.name == "_", f.type, f.offset)) = [(false, 9, 0), (false, 9, 1), (false, 9, 2), (false, 9, 3)] := by kernel_rfl
theorem eq_name (p q : P4) (w : World) : (binOp .eql 28 (pv p) (pv q)).run Tryd.prog w = .ok (.bool (eqP p q)) w := by
  rw [run_eql_struct, run_equalIn_struct w _ _ _ _ nUnder nStood]
  have h := nFields
  generalize (Tryd.prog.fieldsOf 28).toList = fs at *
  have key : FieldsEq 9999 #[.string (bs p.first), .string (bs p.von), .string (bs p.last), .string (bs p.jr)] #[.string (bs q.first), .string (bs q.von), .string (bs q.last), .string (bs q.jr)] fs [p.first == q.first, p.von == q.von, p.last == q.last, p.jr == q.jr] := by
    rcases fs with _ | ⟨a, _ | ⟨b, _ | ⟨c, _ | ⟨d, _ | ⟨e, r⟩⟩⟩⟩⟩
    all_goals simp only [List.map_cons, List.map_nil, List.cons.injEq, Prod.mk.injEq, and_true, reduceCtorEq, and_false] at h
    obtain ⟨⟨a1, a2, a3⟩, ⟨b1, b2, b3⟩, ⟨c1, c2, c3⟩, ⟨d1, d2, d3⟩⟩ := h
    simp only [beq_eq_false_iff_ne] at a1 b1 c1 d1
    have st : ∀ (x y : Bs) w, (Op.equalIn 9999 9 (.string (bs x)) (.string (bs y))).run Tryd.prog w = .ok (x == y) w := fun x y w => by
      rw [run_equalIn_string w 9998 _ _ _ Tryd.underlying9, toList_bs, toList_bs]
    refine ⟨a1, ⟨.string (bs p.first), .string (bs q.first), ?_, ?_, ?_⟩, b1, ⟨.string (bs p.von), .string (bs q.von), ?_, ?_, ?_⟩, c1, ⟨.string (bs p.last), .string (bs q.last), ?_, ?_, ?_⟩, d1, ⟨.string (bs p.jr), .string (bs q.jr), ?_, ?_, ?_⟩, trivial⟩
    all_goals (try rw [a2]); (try rw [a3]); (try rw [b2]); (try rw [b3]); (try rw [c2]); (try rw [c3]); (try rw [d2]); (try rw [d3])
    all_goals (first | exact st _ _ | exact run_part1 _ _ _ _ Tryd.underlying9 rfl)
  rw [eqFields_run _ _ _ _ _ _ key]
  simp [eqP]
theorem eqAtN (p : P4) (w : World) : (Op.equalIn 10000 28 (.agg #[.string (bs p.first), .string (bs p.von), .string (bs p.last), .string (bs p.jr)]) (.agg #[.string (bs p.first), .string (bs p.von), .string (bs p.last), .string (bs p.jr)])).run Tryd.prog w = .ok true w := by
  have h := eq_name p p w
  rw [eqP_self, run_eql_struct] at h
  generalize hr : (Op.equalIn 10000 28 (.agg #[.string (bs p.first), .string (bs p.von), .string (bs p.last), .string (bs p.jr)]) (.agg #[.string (bs p.first), .string (bs p.von), .string (bs p.last), .string (bs p.jr)])).run Tryd.prog w = r at *
  cases r with
  | ok x w2 => simp only [Result.andThen_ok] at h; injection h with h3 h4; injection h3 with h5; rw [h4, h5]
  | halt x w2 => simp [Result.andThen] at h

namespace Tx
theorem parse_small (X : Bs) (h : X.length ≤ 200) : Sm (parse X) 1000 := by
  have hw : ∀ a ∈ pieces cm X, (words a).length ≤ 201 ∧ ((words a).map List.length).sum ≤ 200 := fun a ha => by
    have h1 := words_lens a
    have h2 := sp_mem cm X a ha
    omega
  have jt : ∀ (W : List Bs) (n : Nat), W.length ≤ 201 → (W.map List.length).sum ≤ 200 → (Tx.join (W.take n)).length < 1000 := fun W n h1 h2 => by have := join_take W n; omega
  have jd : ∀ (W : List Bs) (n : Nat), W.length ≤ 201 → (W.map List.length).sum ≤ 200 → (Tx.join (W.drop n)).length < 1000 := fun W n h1 h2 => by have := join_drop W n; omega
  have ja : ∀ (W : List Bs), W.length ≤ 201 → (W.map List.length).sum ≤ 200 → (Tx.join W).length < 1000 := fun W h1 h2 => by have := jt W W.length h1 h2; rwa [List.take_length] at this
  have z : ([] : Bs).length < 1000 := by decide
  match hp : pieces cm X with
  | [] => exact absurd hp (by simp [pieces])
  | [a] =>
    rw [hp] at hw
    obtain ⟨h1, h2⟩ := hw a (by simp)
    rw [parse_one hp]
    unfold parse1
    generalize words a = W at *
    by_cases h0 : W = []
    · rw [if_pos h0]; exact ⟨z, z, z, z⟩
    · rw [if_neg h0]
      by_cases hl : lastS W = 0
      · rw [if_pos hl]
        have hpos := List.length_pos_iff.2 h0
        refine ⟨jt W _ h1 h2, z, ?_, z⟩
        rw [List.getElem?_eq_getElem (by omega), Option.getD_some]
        have := le_sum (List.mem_map.2 ⟨W[W.length - 1], List.getElem_mem (by omega), rfl⟩ : W[W.length - 1].length ∈ W.map List.length)
        show W[W.length - 1].length < 1000
        omega
      · rw [if_neg hl]
        have h3 := (sum_take W (firstS W)).2
        have h4 : (W.drop (firstS W)).length ≤ W.length := by simp
        exact ⟨jt W _ h1 h2, jt _ _ (by omega) (by omega), jd W _ h1 h2, z⟩
  | [a, b] =>
    rw [hp] at hw
    obtain ⟨a1, a2⟩ := hw a (by simp)
    obtain ⟨b1, b2⟩ := hw b (by simp)
    rw [parse_two hp]
    exact ⟨ja _ b1 b2, jt _ _ a1 a2, jd _ _ a1 a2, z⟩
  | a :: b :: c :: r =>
    rw [hp] at hw
    obtain ⟨a1, a2⟩ := hw a (by simp)
    obtain ⟨b1, b2⟩ := hw b (by simp)
    obtain ⟨c1, c2⟩ := hw c (by simp)
    rw [parse_more hp]
    exact ⟨ja _ c1 c2, jt _ _ a1 a2, jd _ _ a1 a2, ja _ b1 b2⟩
theorem show_length (p : P4) (n : Nat) (h : Sm p n) : (showS p).length ≤ 4 * n + 6 := by
  have h1 := h.first
  have h2 := h.von
  have h3 := h.last
  have h4 := h.jr
  unfold showS
  simp only [List.length_append]
  split <;> split <;> simp <;> omega
theorem bk_step (X : Bs) (k : Nat) (h : k < X.length) : bk (X.take (k + 1)) = bkS (bk (X.take k)) X[k] := by
  rw [List.take_succ_eq_append_getElem h, bk_snoc]
theorem one_at (X : Bs) (k : Nat) (h : k < X.length) : (bs X).extract k (k + 1) = bs [X[k]] := by
  rw [bs_extract', List.take_succ_eq_append_getElem h, List.drop_append_of_le_length (by simp; omega), List.drop_of_length_le (by simp; omega)]
  rfl
end Tx

/-- A person's box, in each world behind one. -/
abbrev PS (w : World) (g : Nat) (a b c d : Value) (wx : World) : Prop :=
  wx.cell? ⟨g, 0, none⟩ = some a ∧ wx.cell? ⟨g, 1, none⟩ = some b ∧ wx.cell? ⟨g, 2, none⟩ = some c ∧ wx.cell? ⟨g, 3, none⟩ = some d ∧ g < w.heap.size ∧ Below w.heap.size w wx
theorem PS.below {w : World} {g : Nat} {a b c d : Value} {wx wy : World} (h : PS w g a b c d wx) (hb : Below wx.heap.size wx wy) : PS w g a b c d wy := by
  obtain ⟨h1, h2, h3, h4, h5, h6⟩ := h
  have hl : g < wx.heap.size := Nat.lt_of_lt_of_le h5 h6.size
  exact ⟨(hb.cell (p := ⟨g, 0, none⟩) hl).trans h1, (hb.cell (p := ⟨g, 1, none⟩) hl).trans h2, (hb.cell (p := ⟨g, 2, none⟩) hl).trans h3, (hb.cell (p := ⟨g, 3, none⟩) hl).trans h4, h5, below_via h6 hb⟩
theorem PS.via {w : World} {g : Nat} {a b c d : Value} {wx wy : World} (h : PS w g a b c d wx) (hb : Below wx.heap.size wx wy) : Below w.heap.size w wy := (h.below hb).2.2.2.2.2

set_option maxHeartbeats 8000000 in
theorem nameBack_any (a0 : ByteArray) (w : World) (hm : MaxL w) (w0 : a0.size ≤ maxLen) :
    Calls Tryd.prog 5 #[.string a0] w fun e w' => e = .returned (.bool true) ∧ Below w.heap.size w w' := by
  obtain ⟨l, rfl⟩ : ∃ l, a0 = bs l := ⟨_, (bs_of a0).symm⟩
  have hx := ext_minr l 200 (by omega)
  simp only [show (200 : Int).toNat = 200 from rfl] at hx
  have hs := bs_size l
  simp only [maxLen] at w0
  have i1 : (0 : Int) ≤ min ((bs l).size : Int) 200 := by omega
  have i2 : min ((bs l).size : Int) 200 ≤ ((bs l).size : Int) := by omega
  have hX2 : (l.take 200).length ≤ 200 := List.length_take_le _ _
  clear hs
  generalize l.take 200 = X at *
  have hX : (bs X).size = X.length := bs_size X
  have SM : Hid (Sm (parse X) 1000) := Lib.hid (parse_small X hX2)
  have hsh := show_length _ _ SM.out
  have BACK := Lib.hid (parse_back X)
  have CNT := Lib.hid (parse_count X)
  have BL := bk_length X
  have eqx := eqAtN (parse X)
  have hgu := nGuard
  have HM := Lib.hid hm
  clear hm
  go_enter Tryd.func5, Tryd.ntmps5
  go_wp2_with fail
  refine (parse_any (bs X) _ HM.out (by omega)).mono ?_
  rintro e w1 ⟨rfl, b1⟩
  rw [bs_list]
  have K1 := Lib.hid b1
  replace HM := Lib.hid (HM.out.below b1)
  clear b1
  go_wp2_with fail
  refine (show_any (parse X) _ ⟨by have := SM.out.first; omega, by have := SM.out.von; omega, by have := SM.out.last; omega, by have := SM.out.jr; omega⟩).mono ?_
  rintro e w2 ⟨rfl, hb⟩
  have xP := (Bx.new w1 (parse X)).below hb
  have K2 := lit_only hb
  replace K1 := Lib.hid (below_via K1.out K2)
  replace HM := Lib.hid (HM.out.below K2)
  clear hb K2
  go_wp2_with fail
  refine (parse_any (bs (showS (parse X))) _ HM.out (by rw [bs_size]; omega)).mono ?_
  rintro e w3 ⟨rfl, hb⟩
  rw [bs_list, BACK.out]
  replace xP := xP.below hb
  replace K1 := Lib.hid (below_via K1.out hb)
  replace HM := Lib.hid (HM.out.below hb)
  clear hb
  obtain ⟨c0, c1, c2, c3⟩ := xP.cells
  have lP := xP.lt
  have XP := Lib.hid xP
  clear xP c0 c1 c2 c3
  go_upto_block 0 with fail
  go_cut [5] (fun t wx => t = .string (bs (bk X).2) ∧ wx = w3.alloc (.cells #[.string (bs (parse X).first), .string (bs (parse X).von), .string (bs (parse X).last), .string (bs (parse X).jr)] 28))
  case first =>
    go_wp2_with fail
    go_loop [5, 6, 7] (fun t c i => ∃ k : Nat, k ≤ X.length ∧ i = .int .i64 k ∧ c = .int .i64 ((bk (X.take k)).1 : Nat) ∧ t = .string (bs (bk (X.take k)).2)) (fun _ _ i => X.length - (intOf i).toNat)
    case atStart => exact ⟨0, Nat.zero_le _, rfl, rfl, rfl⟩
    case round =>
      obtain ⟨k, hk, rfl, rfl, rfl⟩ := hrel
      by_cases hlt : k < X.length
      · have hx1 : (k : Int) < (X.length : Int) := by omega
        have hltb : k < (bs X).size := by omega
        have hxb : (k : Int) < ((bs X).size : Int) := by omega
        have hgb : (bs X)[k]'hltb = X[k] := rfl
        have hone := one_at X k hlt
        have HS := Lib.hid (bk_step X k hlt)
        have hbl := bk_length (X.take k)
        have htl : (X.take k).length ≤ 200 := by simp; omega
        have hci := cm_int X[k]
        generalize X[k] = c at *
        generalize bk (X.take k) = q at *
        obtain ⟨m, t⟩ := q
        simp only at hbl
        have hz1 : (bs t).size + (bs [c]).size ≤ 9223372036854775807 := by rw [bs_size, bs_size]; simp; omega
        have hz2 : (bs t).size + (⟨#[32]⟩ : ByteArray).size ≤ 9223372036854775807 := by rw [bs_size]; have : (⟨#[32]⟩ : ByteArray).size = 1 := rfl; omega
        cases hc : cm c with
        | true =>
          rw [hc] at hci
          by_cases h3 : m + 1 < 3
          · have j3 : (m : Int) + 1 < 3 := by omega
            have HR : Hid (bkS (m, t) c = (m + 1, t ++ [32])) := by show _ = _; simp [bkS, hc, h3]
            clear h3 hc
            go_wp2_with fail
            go_round
            case rel => exact ⟨k + 1, by omega, by go_num, by rw [HS.out, HR.out]; go_num, by rw [HS.out, HR.out, show (⟨#[32]⟩ : ByteArray) = bs [32] from rfl, bs_append]⟩
            case measure => simp [intOf]; omega
          · have j3 : (3 : Int) ≤ (m : Int) + 1 := by omega
            have HR : Hid (bkS (m, t) c = (m + 1, t)) := by show _ = _; simp [bkS, hc, h3]
            clear h3 hc
            go_wp2_with fail
            go_round
            case rel => exact ⟨k + 1, by omega, by go_num, by rw [HS.out, HR.out]; go_num, by rw [HS.out, HR.out]⟩
            case measure => simp [intOf]; omega
        | false =>
          rw [hc] at hci
          by_cases h3 : m < 3
          · have j3 : (m : Int) < 3 := by omega
            have HR : Hid (bkS (m, t) c = (m, t ++ [c])) := by show _ = _; simp [bkS, hc, h3]
            clear h3 hc
            go_wp2_with fail
            go_round
            case rel => exact ⟨k + 1, by omega, by go_num, by rw [HS.out, HR.out], by rw [HS.out, HR.out, bs_append]⟩
            case measure => simp [intOf]; omega
          · have j3 : (3 : Int) ≤ (m : Int) := by omega
            have HR : Hid (bkS (m, t) c = (m, t)) := by show _ = _; simp [bkS, hc, h3]
            clear h3 hc
            go_wp2_with fail
            go_round
            case rel => exact ⟨k + 1, by omega, by go_num, by rw [HS.out, HR.out], by rw [HS.out, HR.out]⟩
            case measure => simp [intOf]; omega
      · obtain rfl : k = X.length := by omega
        have HT : Hid (X.take X.length = X) := by show _ = _; exact List.take_length
        go_wp2_with fail
        go_meet
        exact ⟨rfl, rfl⟩
  case rest =>
    obtain ⟨rfl, rfl⟩ := hcut
    have xQ := Bx.new w3 (parse X)
    have hbw : Below w3.heap.size w3 (w3.alloc (.cells #[.string (bs (parse X).first), .string (bs (parse X).von), .string (bs (parse X).last), .string (bs (parse X).jr)] 28)) := (Below.refl _ _).alloc (Nat.le_refl _) _
    have xP := XP.out.below hbw
    have K4 := below_via K1.out hbw
    have hm4 := HM.out.below hbw
    have hQ : w3.heap.size < (w3.alloc (.cells #[.string (bs (parse X).first), .string (bs (parse X).von), .string (bs (parse X).last), .string (bs (parse X).jr)] 28)).heap.size := xQ.lt
    have hP := xP.lt
    clear XP K1 HM lP hbw
    generalize w3.alloc (.cells #[.string (bs (parse X).first), .string (bs (parse X).von), .string (bs (parse X).last), .string (bs (parse X).jr)] 28) = w4 at *
    generalize w1.heap.size = gP at *
    generalize w3.heap.size = gQ at *
    have sf := SM.out.first
    have sv := SM.out.von
    have sl := SM.out.last
    have sj := SM.out.jr
    have BA := BL.1
    clear SM BACK hsh BL
    generalize parse X = p at *
    obtain ⟨f, v, n, j⟩ := p
    simp only at sf sv sl sj eqx
    generalize (bk X).2 = al at *
    have wf := words_length f
    have wv := words_length v
    have wn := words_length n
    have wj := words_length j
    have zf : (bs f).size < 100000 := by rw [bs_size]; omega
    have zv : (bs v).size < 100000 := by rw [bs_size]; omega
    have zn : (bs n).size < 100000 := by rw [bs_size]; omega
    have zj : (bs j).size < 100000 := by rw [bs_size]; omega
    have za : (bs al).size < 100000 := by rw [bs_size]; omega
    have XP := Lib.hid xP
    have XQ := Lib.hid xQ
    have K4 := Lib.hid K4
    obtain ⟨c0, c1, c2, c3⟩ := xP.cells
    simp only at c0 c1 c2 c3
    have a1 : IntKind.i64.wrap (((words f).length : Int) + ((words v).length : Int)) = ((words f).length : Int) + ((words v).length : Int) := by rw [IntWalk.i64_in _ (by omega)]
    have a2 : IntKind.i64.wrap (((words f).length : Int) + ((words v).length : Int) + ((words n).length : Int)) = ((words f).length : Int) + ((words v).length : Int) + ((words n).length : Int) := by rw [IntWalk.i64_in _ (by omega)]
    have a3 : IntKind.i64.wrap (((words f).length : Int) + ((words v).length : Int) + ((words n).length : Int) + ((words j).length : Int)) = ((words f).length : Int) + ((words v).length : Int) + ((words n).length : Int) + ((words j).length : Int) := by rw [IntWalk.i64_in _ (by omega)]
    clear xP xQ wf wv wn wj sf sv sl sj
    go_upto_region 14 with fail
    go_cut [8] (fun m wx => m = .int .i64 (((words f).length : Int) + ((words v).length : Int) + ((words n).length : Int) + ((words j).length : Int)) ∧ Below w4.heap.size w4 wx)
    case first =>
      go_region_held3 (fun wx => wx.cell? ⟨gP, 0, none⟩ = some (.string (bs f)) ∧ wx.cell? ⟨gP, 1, none⟩ = some (.string (bs v)) ∧ wx.cell? ⟨gP, 2, none⟩ = some (.string (bs n)) ∧ wx.cell? ⟨gP, 3, none⟩ = some (.string (bs j)) ∧ gP < w4.heap.size ∧ Below w4.heap.size w4 wx) (first | (exact PS.below (by assumption) (by assumption)) | (exact ⟨c0, c1, c2, c3, hP, (Below.refl _ _).drew⟩) | (exact ⟨c0, c1, c2, c3, hP, Below.refl _ _⟩)) (first | (go_at_call 10; refine (words_any (bs _) _ (by assumption)).mono ?_; rintro e x1 ⟨v1, rfl, r1, b1⟩; rw [bs_list] at r1; obtain ⟨A1, e1, rfl, r1⟩ := r1.shape; clear r1; have k1 : Below w4.heap.size w4 x1 := PS.via (by assumption) b1; have b1' := b1; clear b1; dsimp only))
      all_goals (go_wp2_with fail; go_meet; exact ⟨rfl, k1⟩)
    case rest =>
      obtain ⟨rfl, hb5⟩ := hcut
      have xP := XP.out.below hb5
      have xQ := XQ.out.below hb5
      have K5 := Lib.hid (below_via K4.out hb5)
      replace HM := Lib.hid (hm4.below hb5)
      obtain ⟨d0, d1, d2, d3⟩ := xP.cells
      obtain ⟨e0, e1, e2, e3⟩ := xQ.cells
      simp only at d0 d1 d2 d3 e0 e1 e2 e3
      clear xP xQ XP XQ K4 hm4 hb5 hP hQ c0 c1 c2 c3 a1 a2 a3
      have hcnt : ((((words f).length : Int) + ((words v).length : Int) + ((words n).length : Int) + ((words j).length : Int)) == ((words al).length : Int)) = true := by
        have : (words f).length + (words v).length + (words n).length + (words j).length = (words al).length := CNT.out
        simp only [beq_iff_eq]
        omega
      clear CNT
      generalize (((words f).length : Int) + ((words v).length : Int) + ((words n).length : Int) + ((words j).length : Int)) = M at *
      go_wp2_with fail
      refine (words_any (bs al) _ za).mono ?_
      rintro e x6 ⟨v6, rfl, r6, b6⟩
      rw [bs_list] at r6
      obtain ⟨A6, q6, rfl, r6⟩ := r6.shape
      have K6 := below_via K5.out b6
      replace HM := Lib.hid (HM.out.below b6)
      clear K5 b6 r6 d0 d1 d2 d3 e0 e1 e2 e3
      go_wp2_with fail
      refine (fixed_any _ HM.out).mono ?_
      rintro e x7 ⟨rfl, b7⟩
      go_wp2_with fail
      go_ret
      exact ⟨rfl, below_via K6 b7⟩
end Go.Proofs.YtmnekomoiffebaaDoor
