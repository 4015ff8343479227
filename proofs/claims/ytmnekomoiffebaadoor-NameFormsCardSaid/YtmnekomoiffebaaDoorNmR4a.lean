/- The walk of stetref16.Parse. -/
import Derived.Test.YtmnekomoiffebaaDoorRows
import Derived.Test.YtmnekomoiffebaaDoorKit
import Derived.Test.YtmnekomoiffebaaDoorStr
import Derived.Test.YtmnekomoiffebaaDoorShelf
import Derived.Test.YtmnekomoiffebaaDoorNmW1
import Derived.Test.YtmnekomoiffebaaDoorNmW2
import Derived.Test.YtmnekomoiffebaaDoorNmW3
import Derived.Test.YtmnekomoiffebaaDoorNmW4
import Derived.Test.YtmnekomoiffebaaDoorNmW6
import Derived.Test.YtmnekomoiffebaaDoorNmW7
import Derived.Test.YtmnekomoiffebaaDoorNmW8
import Derived.Test.YtmnekomoiffebaaDoorNmR1
import Derived.Test.YtmnekomoiffebaaDoorNmR2
import Derived.Test.YtmnekomoiffebaaDoorNmR3
import Derived.Test.YtmnekomoiffebaaDoorNmR4
namespace Go.Proofs.YtmnekomoiffebaaDoor
open Go.RowKit Go.Lib Go.Sort Tx


set_option maxRecDepth 100000 in
set_option maxHeartbeats 4000000 in
theorem rparse_one (s : ByteArray) (a : Bs) (w : World) (hs : s.size < 20000) (hp : pieces cm s.data.toList = [a]) :
    Calls Tryd.prog 16 #[.string s] w fun e w' => e = .returned (pv (parse s.data.toList)) ∧ Below w.heap.size w w' := by
  rw [parse_one hp]
  obtain ⟨P, hP⟩ : ∃ P, P = parse1 (words a) := ⟨_, rfl⟩
  rw [← hP]
  have HPP := Lib.hid hP
  clear hP
  have ha := sp_mem cm s.data.toList a (by rw [hp]; simp)
  have hpl := pieces_length cm s.data.toList
  rw [size_list] at ha hpl
  rw [hp] at hpl
  obtain ⟨a1, a2, a3, a4⟩ := words_lens a
  have A4 := Lib.hid a4
  have HP := Lib.hid hp
  clear a4 hp
  go_enter Tryd.func16, Tryd.ntmps16
  go_wp2_with fail
  refine (rCommas_any s _ (by omega)).mono ?_
  rintro e w1 ⟨v, rfl, hr, hb1⟩
  rw [HP.out] at hr
  obtain ⟨g, cap, rfl, q0, q1, q2, q3, q4⟩ := hr.shape (by simp)
  have c0 := (q4 0 (by simp)).1
  simp only [List.getElem_cons_zero] at c0
  have hz := hb1.size
  simp only [World.size_alloc] at hz q0
  obtain ⟨L, hL⟩ : ∃ L, L = ([a]).length := ⟨_, rfl⟩
  have HL := Lib.hid hL
  have hLi : ((L : Int)) = 1 := by rw [hL]; simp
  have hL0 : (0 : Int) < (L : Int) := by omega
  rw [← hL] at q2 hpl ⊢
  clear q4 hL hr
  go_wp2_with fail
  refine (rWords_any (bs a) _ (by rw [bs_size]; omega)).mono ?_
  rintro e w2 ⟨v2, rfl, hr2, hb2⟩
  rw [bs_list] at hr2
  have k1 : Below w.heap.size w w1 := below_lit (Below.refl _ _) (Nat.le_refl _) _ hb1 (by simp)
  have k2 : Below w.heap.size w w2 := below_via k1 hb2
  have e2 : w2.heap[w.heap.size]? = some (.cells #[ez, ez, ez, ez] 26 (0, 0)) := by
    rw [hb2.block _ (by omega), hb1.block _ (by simp), heap_alloc_new]
  have E2 := Lib.hid e2
  have hlt2 := lt_of_block e2
  have A4' := Lib.hid A4.out
  clear c0 e2
  generalize words a = l at *
  have HR2 := Lib.hid hr2
  have hrow := hr2.row
  obtain ⟨A, cap2, rfl, z1, z2, z3⟩ := hrow.shape
  have HZ3 := Lib.hid z3
  clear hr2 z3 hrow
  go_upto_block 0 with fail
  go_cut [5, 6] (fun f t wx => f = .int .i64 (fst1 l (l.length - 1)) ∧ t = .int .i64 ((lastS l : Int) - 1) ∧ wx = w2)
  case first =>
    go_wp2_with fail
    go_loop [5, 6, 7] (fun f t i => ∃ k : Nat, k ≤ l.length - 1 ∧ i = .int .i64 k ∧ f = .int .i64 (fst1 l k) ∧ t = .int .i64 ((lastUp l k : Int) - 1)) (fun _ _ i => l.length - (intOf i).toNat)
    case atStart => exact ⟨0, Nat.zero_le _, rfl, rfl, rfl⟩
    case round =>
      obtain ⟨k, hk, rfl, rfl, rfl⟩ := hrel
      by_cases hlt : k + 1 < l.length
      · have hkl : k < l.length := by omega
        obtain ⟨b, o, rfl, hb, hc⟩ := HZ3.out (by rintro rfl; simp at hkl)
        have hck := hc k hkl
        have hx : (k : Int) + 1 < (l.length : Int) := by omega
        have hx2 : (k : Int) < (l.length : Int) := by omega
        have HU := Lib.hid (lastUp_step l k hkl)
        have HF := Lib.hid (fst1_step l k hkl)
        clear hc
        generalize l[k] = x at *
        cases hsm : sm x with
        | true =>
          rw [hsm] at HU HF
          by_cases hf : fst1 l k < 0
          · have HS := Lib.hid hsm
            have HF2 : Hid (fst1 l (k + 1) = (k : Int)) := by show _ = _; rw [HF.out, if_pos rfl, if_pos hf]
            clear hsm
            go_wp2_with fail
            refine (rSmall_any x _).mono ?_
            rw [HS.out]
            rintro e w' ⟨rfl, rfl⟩
            go_wp2_with fail
            go_round
            case rel => exact ⟨k + 1, by omega, by go_num, by rw [HF2.out], by rw [HU.out, if_pos trivial]; go_num⟩
            case measure => simp [intOf]; omega
          · have HS := Lib.hid hsm
            have HF2 : Hid (fst1 l (k + 1) = fst1 l k) := by show _ = _; rw [HF.out, if_pos rfl, if_neg hf]
            clear hsm
            go_wp2_with fail
            refine (rSmall_any x _).mono ?_
            rw [HS.out]
            rintro e w' ⟨rfl, rfl⟩
            go_wp2_with fail
            go_round
            case rel => exact ⟨k + 1, by omega, by go_num, by rw [HF2.out], by rw [HU.out, if_pos trivial]; go_num⟩
            case measure => simp [intOf]; omega
        | false =>
          rw [hsm] at HU HF
          have HS := Lib.hid hsm
          clear hsm
          go_wp2_with fail
          refine (rSmall_any x _).mono ?_
          rw [HS.out]
          rintro e w' ⟨rfl, rfl⟩
          go_wp2_with fail
          go_round
          case rel => exact ⟨k + 1, by omega, by go_num, by rw [HF.out]; rfl, by rw [HU.out]; rfl⟩
          case measure => simp [intOf]; omega
      · have HK : Hid (k = l.length - 1) := by show _ = _; omega
        go_wp2_with fail
        go_meet
        exact ⟨by rw [HK.out], by rw [HK.out]; rfl, rfl⟩
  case rest =>
    obtain ⟨hf, ht, hw⟩ := hcut
    subst hw
    obtain ⟨⟨f4, f5, f6, f7⟩, g4, g5, g6, g7⟩ := four_cells E2.out
    have hL1 : L = 1 := HL.out
    subst hL1
    by_cases h0 : lastS l = 0
    · have H0 := Lib.hid h0
      replace ht : u6 = .int .i64 (-1) := by rw [ht, h0]; rfl
      clear h0
      subst hf
      subst ht
      by_cases hl : l = []
      · subst hl
        go_wp2_with fail
        have hP2 : P = ⟨[], [], [], []⟩ := HPP.out
        refine bodyPost_ret (v := pv _) (by simp [results, Tryd.f16, go_sem, f4, f5, f6, f7, hP2] <;> rfl) rfl ⟨rfl, ?_⟩
        repeat (refine Below.setCell ?_ (by first | exact Nat.le_refl _ | assumption) _)
        exact k2
      · have hpos := List.length_pos_iff.2 hl
        have hpi : ((l.length : Int) == 0) = false := by simp; omega
        obtain ⟨b, o, rfl, hb, hc⟩ := HZ3.out hl
        have hbl := (World.ownsRow.lt (show wc.ownsRow w1.heap.size 9 1 _ l.length (l.map vs) from HR2.out) b rfl).1
        have hbne : ¬ b = w.heap.size := by omega
        have hbne2 : ¬ w.heap.size = b := by omega
        have HLN := Lib.hid hl
        obtain ⟨n, hn⟩ : ∃ n, n = l.length - 1 := ⟨_, rfl⟩
        have hsub : (l.length : Int) - 1 = (n : Int) := by omega
        have hwr : IntKind.i64.wrap (n : Int) = (n : Int) := by rw [IntWalk.i64_in _ (by omega)]
        have hnl : n < l.length := by omega
        have hcn := hc n hnl
        have HT := Lib.hid ((HR2.out.row.cutTo (n := n) (by omega)).drewN 1)
        have hP2 : Hid (P = ⟨Tx.join (l.take n), [], l[n], []⟩) := by
          show _ = _
          rw [HPP.out, parse1, if_neg HLN.out, if_pos H0.out, ← hn, List.getElem?_eq_getElem hnl]
          rfl
        have hj := (sum_take l n).1
        have i1 : (n : Int) < (l.length : Int) := by omega
        have i2 : (0 : Int) ≤ (n : Int) := by omega
        have i3 : (n : Int) ≤ (l.length : Int) := by omega
        have i4 : (n : Int) ≤ (cap2 : Int) := by omega
        generalize l[n] = x at *
        clear hc hl hn
        go_wp2_with fail
        go_region_held3 (fun wx => wx.cell? ⟨b, o + n, none⟩ = some (.string (bs x)) ∧ wx.frozen? ⟨w.heap.size, 0, none⟩ = false ∧ wx.frozen? ⟨w.heap.size, 1, none⟩ = false ∧ wx.frozen? ⟨w.heap.size, 2, none⟩ = false ∧ wx.frozen? ⟨w.heap.size, 3, none⟩ = false) (go_keep) (first
          | (go_at_call 28; refine (rJoin_any _ (l.take n) _ HT.out (by simp; omega) (by omega)).mono ?_; rintro e w3 ⟨rfl, rfl⟩; dsimp only))
        all_goals
          go_wp2_with fail
          refine bodyPost_ret (v := pv _) (by simp [results, Tryd.f16, go_sem, f4, f5, f6, f7, hP2.out] <;> rfl) rfl ⟨rfl, ?_⟩
          repeat (refine Below.setCell ?_ (by first | exact Nat.le_refl _ | assumption) _)
          exact below_drewN k2 1
    · have H0 := Lib.hid h0
      obtain ⟨h5, h6⟩ := firstS_ok l h0
      obtain ⟨n, hn⟩ : ∃ n, lastS l = n + 1 := ⟨lastS l - 1, by omega⟩
      obtain ⟨m, hm⟩ : ∃ m, m = firstS l := ⟨_, rfl⟩
      replace ht : u6 = .int .i64 (n : Int) := by rw [ht, hn]; go_num
      replace hf : u5 = .int .i64 (m : Int) := by
        rw [hf, fst1, if_neg (show ¬ lastUp l (l.length - 1) = 0 from h0), ← hm]
      have hl : l ≠ [] := by rintro rfl; simp at h6
      have hP2 : Hid (P = ⟨Tx.join (l.take m), Tx.join ((l.drop m).take (n + 1 - m)), Tx.join (l.drop (n + 1)), []⟩) := by
        show _ = _
        rw [HPP.out, parse1, if_neg hl, if_neg h0, ← hn, ← hm]
      rw [hn, ← hm] at h5
      rw [hn] at h6
      clear h0 H0 hn hm hl
      subst hf
      subst ht
      have t1 := HR2.out.row.cutTo (n := m) (by omega)
      have t2 := row_cut2 HR2.out.row (n := m) (m := n + 1) (by omega) (by omega) _ _ _ rfl
      have t3 := row_cut HR2.out.row (n := n + 1) (by omega) _ _ _ rfl
      have T1 := Lib.hid (t1.drewN 1)
      have T2 := Lib.hid (t2.drewN 1)
      have T3 := Lib.hid (t3.drewN 1)
      have j1 := (sum_take l m).1
      have j2 := (sum_take (l.drop m) (n + 1 - m)).1
      have j2' := (sum_take l m).2
      have j3 := (sum_take l (n + 1)).2
      have i1 : (n : Int) + 1 < (l.length : Int) := by omega
      have i2 : (0 : Int) ≤ (n : Int) + 1 := by omega
      have i3 : (n : Int) + 1 ≤ (l.length : Int) := by omega
      have i4 : (n : Int) + 1 ≤ (cap2 : Int) := by omega
      have i5 : (0 : Int) ≤ (m : Int) := by omega
      have i6 : (m : Int) ≤ (n : Int) + 1 := by omega
      have i7 : (m : Int) ≤ (cap2 : Int) := by omega
      have i8 : (l.length : Int) ≤ (cap2 : Int) := by omega
      have i9 : IntKind.i64.wrap ((n : Int) + 1) = (n : Int) + 1 := by rw [IntWalk.i64_in _ (by omega)]
      have i10 : (0 : Int) ≤ (n : Int) := by omega
      clear t1 t2 t3
      generalize hT1 : l.take m = x1 at *
      generalize hT2 : (l.drop m).take (n + 1 - m) = x2 at *
      generalize hT3 : l.drop (n + 1) = x3 at *
      have l1 : x1.length ≤ l.length := by rw [← hT1]; simp; omega
      have l2 : x2.length ≤ l.length := by rw [← hT2]; simp; omega
      have l3 : x3.length ≤ l.length := by rw [← hT3]; simp
      clear hT1 hT2 hT3
      go_wp2_with fail
      go_region_held3 (fun wx => wx.frozen? ⟨w.heap.size, 0, none⟩ = false ∧ wx.frozen? ⟨w.heap.size, 1, none⟩ = false ∧ wx.frozen? ⟨w.heap.size, 2, none⟩ = false ∧ wx.frozen? ⟨w.heap.size, 3, none⟩ = false) (go_keep) (first
        | (have y := tk2; go_at_call 28; refine (rJoin_any _ x3 _ T3.out (by omega) (by omega)).mono ?_; rintro e w5 ⟨rfl, rfl⟩; dsimp only)
        | (have y := tk1; go_at_call 28; refine (rJoin_any _ x2 _ T2.out (by omega) (by omega)).mono ?_; rintro e w4 ⟨rfl, rfl⟩; have tk2 : True := trivial; dsimp only)
        | (go_at_call 28; refine (rJoin_any _ x1 _ T1.out (by omega) (by omega)).mono ?_; rintro e w3 ⟨rfl, rfl⟩; have tk1 : True := trivial; dsimp only))
      all_goals
        go_wp2_with fail
        refine bodyPost_ret (v := pv _) (by simp [results, Tryd.f16, go_sem, f4, f5, f6, f7, hP2.out] <;> rfl) rfl ⟨rfl, ?_⟩
        repeat (refine Below.setCell ?_ (by first | exact Nat.le_refl _ | assumption) _)
        exact below_drewN k2 1

end Go.Proofs.YtmnekomoiffebaaDoor
