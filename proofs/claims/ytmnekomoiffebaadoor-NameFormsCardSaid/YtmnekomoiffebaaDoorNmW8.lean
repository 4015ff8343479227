/- The walk of name.Parse: a name without a comma. -/
import Derived.Test.YtmnekomoiffebaaDoorRows
import Derived.Test.YtmnekomoiffebaaDoorKit
import Derived.Test.YtmnekomoiffebaaDoorStr
import Derived.Test.YtmnekomoiffebaaDoorShelf
import Derived.Test.YtmnekomoiffebaaDoorNmW1
import Derived.Test.YtmnekomoiffebaaDoorNmW2
import Derived.Test.YtmnekomoiffebaaDoorNmW3
import Derived.Test.YtmnekomoiffebaaDoorNmW4
import Derived.Test.YtmnekomoiffebaaDoorNmW6
import Derived.Test.YtmnekomoiffebaaDoorNmW7
namespace Go.Proofs.YtmnekomoiffebaaDoor
open Go.RowKit Go.Lib Go.Sort Tx

theorem lastUp_sm (l : List Bs) (n : Nat) (h : lastUp l n ≠ 0) : ∃ k, lastUp l n = k + 1 ∧ k < n ∧ sm (l[k]?.getD []) = true := by
  induction n with
  | zero => exact absurd rfl h
  | succ n ih =>
    unfold lastUp at h ⊢
    split at h
    · rename_i hs
      rw [if_pos hs]
      exact ⟨n, rfl, by omega, hs⟩
    · rename_i hs
      rw [if_neg hs]
      obtain ⟨k, h1, h2, h3⟩ := ih h
      exact ⟨k, h1, by omega, h3⟩
theorem firstS_ok (l : List Bs) (h : lastS l ≠ 0) : firstS l < lastS l ∧ lastS l < l.length := by
  obtain ⟨k, h1, h2, h3⟩ := lastUp_sm l _ h
  have hk : k < l.length := by omega
  rw [List.getElem?_eq_getElem hk, Option.getD_some] at h3
  have hle : firstS l ≤ k := by
    unfold firstS
    rcases Nat.lt_or_ge k (l.findIdx sm) with h4 | h4
    · have := List.not_of_lt_findIdx h4
      rw [h3] at this
      cases this
    · exact h4
  have h5 : lastS l = k + 1 := h1
  omega

def ne1 (x : Bs) : UInt8 × Bs := (x.headD 0, x.tail)
theorem ne1_eq {x : Bs} (h : x ≠ []) : (ne1 x).1 :: (ne1 x).2 = x := by cases x <;> simp [ne1] at h ⊢
set_option maxRecDepth 10000 in
theorem ifunc_any (v : Value) (l : List Bs) (w : World) (h : Row vs w w.heap.size v l) (hne : ∀ x ∈ l, x ≠ []) (hn : l.length < 1000000) (hk : firstS l < l.length) :
    Calls Tryd.prog 38 #[v, .func (.func 39) #[] #[]] w fun e w' => e = .returned (.int .i64 (firstS l : Nat)) ∧ ∃ q, w' = w.drewN q := by
  have hl : l ≠ [] := by rintro rfl; simp at hk
  obtain ⟨b, off, cap, rfl, q1, q2, q3, q4⟩ := h.cells hl
  have hp : PredAt Tryd.prog 39 #[] (fun x : UInt8 × Bs => vs (x.1 :: x.2)) (fun x => sm (x.1 :: x.2)) w := fun W x _ => (small_any x.1 x.2 W).mono fun _ _ ⟨h1, h2⟩ => ⟨h1, 0, h2.symm⟩
  refine (Tryd.slices_IndexFunc (fun x : UInt8 × Bs => vs (x.1 :: x.2)) (fun x => sm (x.1 :: x.2)) 39 #[] (enters_of Tryd.func39 (by kernel_rfl) rfl) b off l.length cap (l.map ne1) w hp (by simp) (by omega) (fun j hj => ?_)).mono ?_
  · have hj' : j < l.length := by simpa using hj
    rw [q4 j hj', getElem!_pos _ j hj]
    simp only [List.getElem_map]
    rw [ne1_eq (hne _ (List.getElem_mem hj'))]
  · rintro e w' ⟨rfl, hw⟩
    refine ⟨?_, hw⟩
    rw [List.take_of_length_le (by simp)]
    have hh := Lib.idxByFrom_hit (fun (_ : UInt8 × Bs) y => sm (y.1 :: y.2)) default (l.map ne1) (firstS l) 0 (by simpa using hk) ?_ ?_
    · unfold Lib.idxBy
      rw [hh, Nat.zero_add]
    · rw [getElem!_pos _ _ (by simpa using hk)]
      simp only [List.getElem_map]
      rw [ne1_eq (hne _ (List.getElem_mem hk))]
      exact List.findIdx_getElem
    · intro j hj
      have hj' : j < l.length := by omega
      rw [getElem!_pos _ _ (by simpa using hj')]
      simp only [List.getElem_map]
      rw [ne1_eq (hne _ (List.getElem_mem hj'))]
      have := List.not_of_lt_findIdx hj
      simpa using this

/-- A text that is not empty does not stand in a fresh box. -/
theorem not_box {w : World} {g b k : Nat} {x : Bs} {t : TypeId} (h : w.heap[g]? = some (.cells #[ez, ez, ez, ez] t (0, 0))) (hc : w.cell? ⟨b, k, none⟩ = some (vs x)) (hx : x ≠ []) : ¬ b = g := by
  rintro rfl
  have h1 : w.cell? ⟨b, k, none⟩ = #[ez, ez, ez, ez][k]? := by simp [World.cell?, h]
  rw [hc] at h1
  have h2 : vs x ∈ #[ez, ez, ez, ez] := Array.mem_of_getElem? h1.symm
  have h3 : vs x = ez := by simpa using h2
  injection h3 with h4
  exact hx (bs_inj (b := []) h4)
set_option maxHeartbeats 2000000 in
theorem parse_one_any (s : ByteArray) (a : Bs) (w : World) (hm : MaxL w) (hs : s.size < 20000) (hp : pieces cm s.data.toList = [a]) :
    Calls Tryd.prog 15 #[.string s] w fun e w' => e = .returned (pv (parse s.data.toList)) ∧ Below w.heap.size w w' := by
  rw [parse_one hp]
  obtain ⟨P, hP⟩ : ∃ P, P = parse1 (words a) := ⟨_, rfl⟩
  rw [← hP]
  have HPP := Lib.hid hP
  clear hP
  have ha := sp_mem cm s.data.toList a (by rw [hp]; simp)
  rw [size_list] at ha
  obtain ⟨a1, a2, a3, a4⟩ := words_lens a
  have A4 := Lib.hid a4
  have HP := Lib.hid hp
  clear a4 hp
  go_enter Tryd.func15, Tryd.ntmps15
  go_wp2_with fail
  refine (ssplit_any s _ (hm.alloc _) (by omega)).mono ?_
  rintro e w1 ⟨v, rfl, hr, hb1⟩
  rw [HP.out] at hr
  obtain ⟨g, off, cap, rfl, q1, q2, q3, q4⟩ := hr.cells (by simp)
  have c0 := q4 0 (by simp)
  simp only [List.getElem_cons_zero, Nat.add_zero] at c0
  have hz := hb1.size
  simp only [World.size_alloc] at hz
  clear q4
  go_wp2_with fail
  refine (words_any (bs a) _ (by rw [bs_size]; omega)).mono ?_
  rintro e w2 ⟨v2, rfl, hr2, hb2⟩
  rw [bs_list] at hr2
  have k1 : Below w.heap.size w w1 := below_lit (Below.refl _ _) (Nat.le_refl _) _ hb1 (by simp)
  have k2 : Below w.heap.size w w2 := below_via k1 hb2
  have e2 : w2.heap[w.heap.size]? = some (.cells #[ez, ez, ez, ez] 28 (0, 0)) := by
    rw [hb2.block _ (by omega), hb1.block _ (by simp), heap_alloc_new]
  obtain ⟨⟨f4, f5, f6, f7⟩, g4, g5, g6, g7⟩ := four_cells e2
  have hlt2 := lt_of_block e2
  have E2 := Lib.hid e2
  have A4' := Lib.hid A4.out
  clear hr c0 e2
  generalize words a = l at *
  obtain ⟨A, cap2, rfl, z1, z2, z3⟩ := hr2.shape
  have HR2 := Lib.hid hr2
  have HZ3 := Lib.hid z3
  clear hr2 z3
  by_cases hl : l = []
  · subst hl
    go_wp2_with fail
    have hP2 : P = ⟨[], [], [], []⟩ := HPP.out
    refine bodyPost_ret (v := pv _) (by simp [results, Tryd.f15, go_sem, f4, f5, f6, f7, hP2] <;> rfl) rfl ⟨rfl, ?_⟩
    repeat (refine Below.setCell ?_ (by first | exact Nat.le_refl _ | assumption) _)
    exact k2
  · have hpos := List.length_pos_iff.2 hl
    have hpi : ((l.length : Int) == 0) = false := by simp; omega
    have HL := Lib.hid hl
    clear hl
    by_cases h0 : lastS l = 0
    · have H0 := Lib.hid h0
      have hla := last_any _ l w2 HR2.out (by omega) A4'.out
      rw [h0] at hla
      clear h0
      go_wp2_with fail
      refine hla.mono ?_
      rintro e w3 ⟨rfl, rfl⟩
      obtain ⟨n, hn⟩ : ∃ n, n = l.length - 1 := ⟨_, rfl⟩
      have hsub : (l.length : Int) - 1 = (n : Int) := by omega
      have hwr : IntKind.i64.wrap (n : Int) = (n : Int) := by rw [IntWalk.i64_in _ (by omega)]
      obtain ⟨b, o, rfl, hb, hc⟩ := HZ3.out HL.out
      have hnl : n < l.length := by omega
      have hcn := hc n hnl
      have ht := HR2.out.cutTo (n := n) (by omega)
      have HT := Lib.hid ht
      have hP2 : Hid (P = ⟨Tx.join (l.take n), [], l[n], []⟩) := by
        show _ = _
        rw [HPP.out, parse1, if_neg HL.out, if_pos H0.out, ← hn, List.getElem?_eq_getElem hnl]
        rfl
      have hj := join_take l n
      have i1 : (n : Int) < (l.length : Int) := by omega
      have i2 : (0 : Int) ≤ (n : Int) := by omega
      have i3 : (n : Int) ≤ (l.length : Int) := by omega
      have i4 : (n : Int) ≤ (cap2 : Int) := by omega
      have hd2 : Below w2.heap.size w2 w2.drew := (Below.refl _ _).drew
      have hxne : l[n] ≠ [] := A4'.out _ (List.getElem_mem hnl)
      generalize l[n] = x at *
      clear hc ht hn
      go_wp2_with fail
      have hbne : ¬ b = w.heap.size := not_box E2.out hcn hxne
      have hbne2 : ¬ w.heap.size = b := fun e => hbne e.symm
      go_region_held3 (fun wx => wx.cell? ⟨b, o + n, none⟩ = some (.string (bs x)) ∧ wx.frozen? ⟨w.heap.size, 0, none⟩ = false ∧ wx.frozen? ⟨w.heap.size, 1, none⟩ = false ∧ wx.frozen? ⟨w.heap.size, 2, none⟩ = false ∧ wx.frozen? ⟨w.heap.size, 3, none⟩ = false) (go_keep) (first
        | (go_at_call 34; refine (join_any _ (l.take n) _ (Row.step HT.out hd2) (by omega) (by simp; omega)).mono ?_; rintro e w3 ⟨rfl, hb3⟩; have hcn3 := (hb3.cell (p := ⟨b, o + n, none⟩) hb).trans hcn; have e3 := (hb3.block _ hlt2).trans E2.out; have hlt3 := lt_of_block e3; have H3 := Lib.hid e3; obtain ⟨⟨f43, f53, f63, f73⟩, g43, g53, g63, g73⟩ := four_cells e3; clear e3; dsimp only))
      all_goals
        go_wp2_with fail
        refine bodyPost_ret (v := pv _) (by simp [results, Tryd.f15, go_sem, f43, f53, f63, f73, hP2.out] <;> rfl) rfl ⟨rfl, ?_⟩
        repeat (refine Below.setCell ?_ (by first | exact Nat.le_refl _ | assumption) _)
        exact k2.trans ((hd2.trans hb3).mono k2.size)
    · have H0 := Lib.hid h0
      obtain ⟨h5, h6⟩ := firstS_ok l h0
      have hla := last_any _ l w2 HR2.out (by omega) A4'.out
      have hni : ((lastS l : Int) == 0) = false := by simp; omega
      have HIF := Lib.hid (ifunc_any _ l w2 HR2.out A4'.out (by omega) (by omega))
      have hP2 : Hid (P = ⟨Tx.join (l.take (firstS l)), Tx.join ((l.drop (firstS l)).take (lastS l - firstS l)), Tx.join (l.drop (lastS l)), []⟩) := by
        show _ = _
        rw [HPP.out, parse1, if_neg HL.out, if_neg H0.out]
      clear h0 H0
      generalize hn : lastS l = n at *
      generalize hmm : firstS l = m at *
      go_wp2_with fail
      refine hla.mono ?_
      rintro e w3 ⟨rfl, rfl⟩
      go_wp2_with fail
      refine HIF.out.mono ?_
      rintro e w3 ⟨rfl, q, rfl⟩
      have hd2 : Below w2.heap.size w2 (w2.drewN q) := below_drewN (Below.refl _ _) q
      have t1 := HR2.out.cutTo (n := m) (by omega)
      have t2 := row_cut2 HR2.out (n := m) (m := n) (by omega) (by omega) _ _ _ rfl
      have t3 := row_cut HR2.out (n := n) (by omega) _ _ _ rfl
      have T1 := Lib.hid (fun w' hb => Row.step (w' := w') t1 hb)
      have T2 := Lib.hid (fun w' hb => Row.step (w' := w') t2 hb)
      have T3 := Lib.hid (fun w' hb => Row.step (w' := w') t3 hb)
      have j1 := join_take l m
      have j2 : (Tx.join ((l.drop m).take (n - m))).length ≤ (l.map List.length).sum + l.length := by
        have h1 := join_take (l.drop m) (n - m)
        have h2 := (sum_take l m).2
        have h3 : (l.drop m).length ≤ l.length := by simp
        omega
      have j3 := join_drop l n
      have i1 : (n : Int) < (l.length : Int) := by omega
      have i2 : (0 : Int) ≤ (n : Int) := by omega
      have i3 : (n : Int) ≤ (l.length : Int) := by omega
      have i4 : (n : Int) ≤ (cap2 : Int) := by omega
      have i5 : (0 : Int) ≤ (m : Int) := by omega
      have i6 : (m : Int) ≤ (n : Int) := by omega
      have i7 : (m : Int) ≤ (cap2 : Int) := by omega
      have i8 : (l.length : Int) ≤ (cap2 : Int) := by omega
      have hd3 : Below w2.heap.size w2 (w2.drewN q).drew := hd2.drew
      clear t1 t2 t3 hn hmm
      generalize hT1 : l.take m = x1 at *
      generalize hT2 : (l.drop m).take (n - m) = x2 at *
      generalize hT3 : l.drop n = x3 at *
      have l1 : x1.length ≤ l.length := by rw [← hT1]; simp; omega
      have l2 : x2.length ≤ l.length := by rw [← hT2]; simp; omega
      have l3 : x3.length ≤ l.length := by rw [← hT3]; simp
      clear hT1 hT2 hT3
      go_wp2_with fail
      go_region_held3 (fun wx => wx.frozen? ⟨w.heap.size, 0, none⟩ = false ∧ wx.frozen? ⟨w.heap.size, 1, none⟩ = false ∧ wx.frozen? ⟨w.heap.size, 2, none⟩ = false ∧ wx.frozen? ⟨w.heap.size, 3, none⟩ = false) (go_keep) (first
        | (have y := hb4; go_at_call 34; refine (join_any _ x3 _ (T3.out _ hb4) (by omega) (by omega)).mono ?_; rintro e w5 ⟨rfl, hb5'⟩; have hb5 := below_via hb4 hb5'; clear hb5'; have e5 := (hb5.block _ hlt2).trans E2.out; have hlt5 := lt_of_block e5; obtain ⟨⟨f43, f53, f63, f73⟩, g43, g53, g63, g73⟩ := four_cells e5; clear e5; dsimp only)
        | (have y := hb3; go_at_call 34; refine (join_any _ x2 _ (T2.out _ hb3) (by omega) (by omega)).mono ?_; rintro e w4 ⟨rfl, hb4'⟩; have hb4 := below_via hb3 hb4'; clear hb4'; have e4 := (hb4.block _ hlt2).trans E2.out; obtain ⟨_, g44, g54, g64, g74⟩ := four_cells e4; clear e4; dsimp only)
        | (go_at_call 34; refine (join_any _ x1 _ (T1.out _ hd3) (by omega) (by omega)).mono ?_; rintro e w3 ⟨rfl, hb3'⟩; have hb3 := below_via hd3 hb3'; clear hb3'; have e3 := (hb3.block _ hlt2).trans E2.out; obtain ⟨_, g45, g55, g65, g75⟩ := four_cells e3; clear e3; dsimp only))
      all_goals
        go_wp2_with fail
        refine bodyPost_ret (v := pv _) (by simp [results, Tryd.f15, go_sem, f43, f53, f63, f73, hP2.out] <;> rfl) rfl ⟨rfl, ?_⟩
        repeat (refine Below.setCell ?_ (by first | exact Nat.le_refl _ | assumption) _)
        exact below_via k2 hb5

theorem parse_any (s : ByteArray) (w : World) (hm : MaxL w) (hs : s.size < 20000) :
    Calls Tryd.prog 15 #[.string s] w fun e w' => e = .returned (pv (parse s.data.toList)) ∧ Below w.heap.size w w' := by
  match hp : pieces cm s.data.toList with
  | [] => simp [pieces] at hp
  | [a] => exact parse_one_any s a w hm hs hp
  | [a, b] => exact parse_two_any s a b w hm hs hp
  | a :: b :: c :: r => exact parse_more_any s a b c r w hm hs hp
end Go.Proofs.YtmnekomoiffebaaDoor
