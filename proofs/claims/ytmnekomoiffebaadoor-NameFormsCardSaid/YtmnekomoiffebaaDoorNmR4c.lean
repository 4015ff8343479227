/- The walk of stetref16.Parse. -/
import Derived.Test.YtmnekomoiffebaaDoorRows
import Derived.Test.YtmnekomoiffebaaDoorKit
import Derived.Test.YtmnekomoiffebaaDoorStr
import Derived.Test.YtmnekomoiffebaaDoorShelf
import Derived.Test.YtmnekomoiffebaaDoorNmW1
import Derived.Test.YtmnekomoiffebaaDoorNmW2
import Derived.Test.YtmnekomoiffebaaDoorNmW3
import Derived.Test.YtmnekomoiffebaaDoorNmW4
import Derived.Test.YtmnekomoiffebaaDoorNmW6
import Derived.Test.YtmnekomoiffebaaDoorNmW7
import Derived.Test.YtmnekomoiffebaaDoorNmW8
import Derived.Test.YtmnekomoiffebaaDoorNmR1
import Derived.Test.YtmnekomoiffebaaDoorNmR2
import Derived.Test.YtmnekomoiffebaaDoorNmR3
import Derived.Test.YtmnekomoiffebaaDoorNmR4
namespace Go.Proofs.YtmnekomoiffebaaDoor
open Go.RowKit Go.Lib Go.Sort Tx


set_option maxRecDepth 100000 in
set_option maxHeartbeats 4000000 in
theorem rparse_more (s : ByteArray) (a b c : Bs) (r : List Bs) (w : World) (hs : s.size < 20000) (hp : pieces cm s.data.toList = a :: b :: c :: r) :
    Calls Tryd.prog 16 #[.string s] w fun e w' => e = .returned (pv (parse s.data.toList)) ∧ Below w.heap.size w w' := by
  rw [parse_more hp]
  obtain ⟨P, hP⟩ : ∃ P, P = (⟨Tx.join (words c), Tx.join ((words a).take (lastS (words a))), Tx.join ((words a).drop (lastS (words a))), Tx.join (words b)⟩ : P4) := ⟨_, rfl⟩
  rw [← hP]
  have HPP := Lib.hid hP
  clear hP
  have ha := sp_mem cm s.data.toList a (by rw [hp]; simp)
  have hb := sp_mem cm s.data.toList b (by rw [hp]; simp)
  have hc := sp_mem cm s.data.toList c (by rw [hp]; simp)
  have hpl := pieces_length cm s.data.toList
  rw [size_list] at ha hb hc hpl
  rw [hp] at hpl
  obtain ⟨a1, a2, a3, a4⟩ := words_lens a
  obtain ⟨b1, b2, b3, b4⟩ := words_lens b
  obtain ⟨d1, d2, d3, d4⟩ := words_lens c
  have A4 := Lib.hid a4
  have HP := Lib.hid hp
  clear a4 hp b4 d4
  go_enter Tryd.func16, Tryd.ntmps16
  go_wp2_with fail
  refine (rCommas_any s _ (by omega)).mono ?_
  rintro e w1 ⟨v, rfl, hr, hb1⟩
  rw [HP.out] at hr
  obtain ⟨g, cap, rfl, q0, q1, q2, q3, q4⟩ := hr.shape (by simp)
  have c0 := (q4 0 (by simp)).1
  have c1 := (q4 1 (by simp)).1
  have c2 := (q4 2 (by simp)).1
  simp only [List.getElem_cons_zero, List.getElem_cons_succ] at c0 c1 c2
  have hz := hb1.size
  simp only [World.size_alloc] at hz q0
  obtain ⟨L, hL⟩ : ∃ L, L = (a :: b :: c :: r).length := ⟨_, rfl⟩
  have HL := Lib.hid hL
  have hLi : (2 : Int) < ((L : Int)) := by rw [hL]; simp; omega
  have hL0 : (0 : Int) < (L : Int) := by omega
  rw [← hL] at q2 hpl ⊢
  clear q4 hL hr
  go_wp2_with fail
  refine (rWords_any (bs a) _ (by rw [bs_size]; omega)).mono ?_
  rintro e w2 ⟨v2, rfl, hr2, hb2⟩
  rw [bs_list] at hr2
  have k1 : Below w.heap.size w w1 := below_lit (Below.refl _ _) (Nat.le_refl _) _ hb1 (by simp)
  have k2 : Below w.heap.size w w2 := below_via k1 hb2
  have e2 : w2.heap[w.heap.size]? = some (.cells #[ez, ez, ez, ez] 26 (0, 0)) := by
    rw [hb2.block _ (by omega), hb1.block _ (by simp), heap_alloc_new]
  have E2 := Lib.hid e2
  have hlt2 := lt_of_block e2
  have A4' := Lib.hid A4.out
  clear c0 e2
  generalize words a = l at *
  have HR2 := Lib.hid hr2
  have hrow := hr2.row
  obtain ⟨A, cap2, rfl, z1, z2, z3⟩ := hrow.shape
  have HZ3 := Lib.hid z3
  clear hr2 z3 hrow
  go_upto_block 0 with fail
  go_cut [5, 6] (fun f t wx => f = .int .i64 (fst1 l (l.length - 1)) ∧ t = .int .i64 ((lastS l : Int) - 1) ∧ wx = w2)
  case first =>
    go_wp2_with fail
    go_loop [5, 6, 7] (fun f t i => ∃ k : Nat, k ≤ l.length - 1 ∧ i = .int .i64 k ∧ f = .int .i64 (fst1 l k) ∧ t = .int .i64 ((lastUp l k : Int) - 1)) (fun _ _ i => l.length - (intOf i).toNat)
    case atStart => exact ⟨0, Nat.zero_le _, rfl, rfl, rfl⟩
    case round =>
      obtain ⟨k, hk, rfl, rfl, rfl⟩ := hrel
      by_cases hlt : k + 1 < l.length
      · have hkl : k < l.length := by omega
        obtain ⟨b, o, rfl, hb, hc⟩ := HZ3.out (by rintro rfl; simp at hkl)
        have hck := hc k hkl
        have hx : (k : Int) + 1 < (l.length : Int) := by omega
        have hx2 : (k : Int) < (l.length : Int) := by omega
        have HU := Lib.hid (lastUp_step l k hkl)
        have HF := Lib.hid (fst1_step l k hkl)
        clear hc
        generalize l[k] = x at *
        cases hsm : sm x with
        | true =>
          rw [hsm] at HU HF
          by_cases hf : fst1 l k < 0
          · have HS := Lib.hid hsm
            have HF2 : Hid (fst1 l (k + 1) = (k : Int)) := by show _ = _; rw [HF.out, if_pos rfl, if_pos hf]
            clear hsm
            go_wp2_with fail
            refine (rSmall_any x _).mono ?_
            rw [HS.out]
            rintro e w' ⟨rfl, rfl⟩
            go_wp2_with fail
            go_round
            case rel => exact ⟨k + 1, by omega, by go_num, by rw [HF2.out], by rw [HU.out, if_pos trivial]; go_num⟩
            case measure => simp [intOf]; omega
          · have HS := Lib.hid hsm
            have HF2 : Hid (fst1 l (k + 1) = fst1 l k) := by show _ = _; rw [HF.out, if_pos rfl, if_neg hf]
            clear hsm
            go_wp2_with fail
            refine (rSmall_any x _).mono ?_
            rw [HS.out]
            rintro e w' ⟨rfl, rfl⟩
            go_wp2_with fail
            go_round
            case rel => exact ⟨k + 1, by omega, by go_num, by rw [HF2.out], by rw [HU.out, if_pos trivial]; go_num⟩
            case measure => simp [intOf]; omega
        | false =>
          rw [hsm] at HU HF
          have HS := Lib.hid hsm
          clear hsm
          go_wp2_with fail
          refine (rSmall_any x _).mono ?_
          rw [HS.out]
          rintro e w' ⟨rfl, rfl⟩
          go_wp2_with fail
          go_round
          case rel => exact ⟨k + 1, by omega, by go_num, by rw [HF.out]; rfl, by rw [HU.out]; rfl⟩
          case measure => simp [intOf]; omega
      · have HK : Hid (k = l.length - 1) := by show _ = _; omega
        go_wp2_with fail
        go_meet
        exact ⟨by rw [HK.out], by rw [HK.out]; rfl, rfl⟩
  case rest =>
    obtain ⟨hf, ht, hw⟩ := hcut
    subst hw
    obtain ⟨⟨f4, f5, f6, f7⟩, g4, g5, g6, g7⟩ := four_cells E2.out
    have c1c := (hb2.cell (p := ⟨g, 1, none⟩) q1).trans c1
    have hgc : g < wc.heap.size := Nat.lt_of_lt_of_le q1 hb2.size
    subst hf
    have hn1 := lastS_le l
    have t1 := HR2.out.row.cutTo hn1
    have t2 := row_cut HR2.out.row hn1 _ _ _ rfl
    have T1 := Lib.hid (t1.drewN 1)
    have T2 := Lib.hid (t2.drewN 1)
    have HPP' := Lib.hid HPP.out
    clear t1 t2
    generalize lastS l = n at *
    subst ht
    have j1 := (sum_take l n).1
    have j2 := (sum_take l n).2
    generalize hT1 : l.take n = x1 at *
    generalize hT2 : l.drop n = x2 at *
    have l1 : x1.length ≤ l.length := by rw [← hT1]; simp; omega
    have l2 : x2.length ≤ l.length := by rw [← hT2]; simp
    clear hT1 hT2
    have i2 : (0 : Int) ≤ (n : Int) := by omega
    have i3 : (n : Int) ≤ (l.length : Int) := by omega
    have i4 : (n : Int) ≤ (cap2 : Int) := by omega
    have i8 : (l.length : Int) ≤ (cap2 : Int) := by omega
    have hgw : ¬ g = w.heap.size := by omega
    have i11 : (1 : Int) < (L : Int) := by omega
    have hd0 : Below wc.heap.size wc wc.drew := (Below.refl _ _).drew
    have hbsz : (bs b).size < 100000 := by rw [bs_size]; omega
    have y1 : x1.length < 100000 := by omega
    have y2 : x2.length < 100000 := by omega
    have y3 : (x1.map List.length).sum < 100000 := by omega
    have y4 : (x2.map List.length).sum < 100000 := by omega
    have y5 : (words b).length < 100000 := by omega
    have y6 : ((words b).map List.length).sum < 100000 := by omega
    have hlt2' : w.heap.size + 1 ≤ wc.heap.size := by omega
    clear a1 a2 a3 b1 b2 b3 j1 j2 l1 l2
    have i9 : IntKind.i64.wrap (n : Int) = (n : Int) := by rw [IntWalk.i64_in _ (by omega)]
    have tk0 : True := trivial
    have hg5 : ¬ g = wc.heap.size := Nat.ne_of_lt hgc
    have hg6 : ¬ wc.heap.size = g := fun e => hg5 e.symm
    go_upto_region 12 with fail
    go_cut [8] (fun p wx => ∃ g8, p = .pointer (some ⟨g8, 0, none⟩) ∧ wx.heap[g8]? = some (.cells #[.string (bs (Tx.join (words b))), .string (bs (Tx.join x1)), .string (bs (Tx.join x2)), ez] 26 (0, 0)) ∧ wc.heap.size ≤ g8 ∧ Below wc.heap.size wc wx)
    case first =>
     go_region_held3 (fun wx => wx.cell? ⟨g, 1, none⟩ = some (.string (bs b))) (go_keep) (first
       | (have y := tk3; clear y tk3; go_at_call 28; refine (rJoin_any _ (words b) _ (by first | exact hr3.row | exact (hr3.below ((Below.refl _ _).alloc (Nat.le_refl _) _)).row) y5 y6).mono ?_; rintro e w5 ⟨rfl, rfl⟩; dsimp only)
       | (have y := tk2; clear y tk2; go_at_call 11; refine (rWords_any (bs b) _ hbsz).mono ?_; rintro e w3 ⟨v3, rfl, hr3, hb3⟩; rw [bs_list] at hr3; have tk3 : True := trivial; have hb3w : Below wc.heap.size wc w3 := (by first | exact below_via hd0 hb3 | exact below_via (hd0.alloc (Nat.le_refl _) _) hb3); have c13 : w3.cell? ⟨g, 1, none⟩ = some (.string (bs b)) := (hb3w.cell (p := ⟨g, 1, none⟩) hgc).trans c1c; (try (have e9 : w3.heap[wc.heap.size]? = some (.cells #[ez, ez, ez, ez] 26 (0, 0)) := (by refine (hb3.block _ ?_).trans (heap_alloc_new _ _); simp; done); have hlt9 := lt_of_block e9; obtain ⟨⟨f49, f59, f69, f79⟩, g49, g59, g69, g79⟩ := four_cells e9; have E9 := Lib.hid e9; clear e9)); dsimp only)
       | (have y := tk1; clear y tk1; go_at_call 28; refine (rJoin_any _ x2 _ (by first | exact T2.out | exact (T2.out.alloc (Nat.le_refl _) _).more (by simp)) y2 y4).mono ?_; rintro e w5 ⟨rfl, rfl⟩; have tk2 : True := trivial; dsimp only)
       | (have y := tk0; clear y tk0; go_at_call 28; refine (rJoin_any _ x1 _ (by first | exact T1.out | exact (T1.out.alloc (Nat.le_refl _) _).more (by simp)) y1 y3).mono ?_; rintro e w5 ⟨rfl, rfl⟩; have tk1 : True := trivial; dsimp only))
     all_goals
      go_wp2_with fail
      go_meet
      refine ⟨_, rfl, ?_, ?_, ?_⟩
      · first | (with_reducible exact heap_alloc_new _ _) | exact cells_setCell (cells_setCell (cells_setCell (cells_setCell E9.out _) _) _) _
      · first | (with_reducible exact Nat.le_refl _) | exact hb3w.size
      · first | (with_reducible exact hb3w.alloc hb3w.size _) | exact (((hb3w.setCell (Nat.le_refl _) _).setCell (Nat.le_refl _) _).setCell (Nat.le_refl _) _).setCell (Nat.le_refl _) _
    case rest =>
      obtain ⟨g8, rfl, E8, hg8, hbx⟩ := hcut
      rename_i wd
      have e8 := (hbx.block _ hlt2).trans E2.out
      have hlt8 := lt_of_block e8
      have hlt9 := lt_of_block E8
      have E8' := Lib.hid E8
      have e8' := Lib.hid e8
      obtain ⟨⟨f49, f59, f69, f79⟩, g49, g59, g69, g79⟩ := four_cells E8
      have hne8 : ¬ w.heap.size = g8 := by omega
      have hne9 : ¬ g = g8 := by omega
      have c2d := ((hb2.trans (hbx.mono hb2.size)).cell (p := ⟨g, 2, none⟩) q1).trans c2
      clear e8 E8
      go_wp2_with fail
      refine (rWords_any (bs c) _ (by rw [bs_size]; omega)).mono ?_
      rintro e w6 ⟨v6, rfl, hr6, hb6⟩
      rw [bs_list] at hr6
      have e6 : w6.heap[g8]? = some (.cells #[.string (bs (Tx.join (words b))), .string (bs (Tx.join x1)), .string (bs (Tx.join x2)), .string (bs (Tx.join (words b)))] 26 (0, 0)) := (hb6.block _ (by rw [World.size_setCell]; exact hlt9)).trans (cells_setCell E8'.out _)
      have e7 : w6.heap[w.heap.size]? = some (.cells #[ez, ez, ez, ez] 26 (0, 0)) := ((hb6.block _ (by rw [World.size_setCell]; exact hlt8)).trans (Below.heap_setCell _ _ _ _ hne8)).trans e8'.out
      have hlt66 := lt_of_block e6
      have hlt67 := lt_of_block e7
      obtain ⟨⟨f46, f56, f66, f76⟩, g46, g56, g66, g76⟩ := four_cells e6
      obtain ⟨⟨f47, f57, f67, f77⟩, g47, g57, g67, g77⟩ := four_cells e7
      have hle8 : w.heap.size ≤ g8 := by omega
      have K6 : Below w.heap.size w w6 := ((below_via k2 hbx).setCell hle8 _).trans (hb6.mono (by rw [World.size_setCell]; exact (below_via k2 hbx).size))
      clear e6 e7 hb6 hbx
      go_wp2_with fail
      refine (rJoin_any _ (words c) _ hr6.row (by omega) (by omega)).mono ?_
      rintro e w7 ⟨rfl, rfl⟩
      go_wp2_with fail
      refine bodyPost_ret (v := pv _) (by simp [results, Tryd.f16, go_sem, f47, f57, f67, f77, HPP'.out] <;> rfl) rfl ⟨rfl, ?_⟩
      repeat (refine Below.setCell ?_ (by first | exact Nat.le_refl _ | assumption) _)
      exact K6

end Go.Proofs.YtmnekomoiffebaaDoor
