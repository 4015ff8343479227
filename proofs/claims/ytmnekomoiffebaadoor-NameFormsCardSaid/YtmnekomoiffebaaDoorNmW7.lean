/- The walk of name.Parse. -/
import Derived.Test.YtmnekomoiffebaaDoorRows
import Derived.Test.YtmnekomoiffebaaDoorKit
import Derived.Test.YtmnekomoiffebaaDoorStr
import Derived.Test.YtmnekomoiffebaaDoorShelf
import Derived.Test.YtmnekomoiffebaaDoorNmW1
import Derived.Test.YtmnekomoiffebaaDoorNmW2
import Derived.Test.YtmnekomoiffebaaDoorNmW3
import Derived.Test.YtmnekomoiffebaaDoorNmW4
import Derived.Test.YtmnekomoiffebaaDoorNmW6
namespace Go.Proofs.YtmnekomoiffebaaDoor
open Go.RowKit Go.Lib Go.Sort Tx

abbrev pv (p : P4) : Value := .agg #[.string (bs p.first), .string (bs p.von), .string (bs p.last), .string (bs p.jr)]
theorem words_lens (a : Bs) : (words a).length ≤ a.length + 1 ∧ ((words a).map List.length).sum ≤ a.length ∧ (Tx.join (words a)).length ≤ 2 * a.length + 1 ∧ ∀ x ∈ words a, x ≠ [] :=
  ⟨words_length a, words_sum a, by have := join_length (words a); have := words_sum a; have := words_length a; omega, fun x hx => (words_clean a x hx).1⟩

/-- A block of four cells. -/
theorem four_cells {w : World} {g : Nat} {a b c d : Value} {t : TypeId} (h : w.heap[g]? = some (.cells #[a, b, c, d] t (0, 0))) :
    (w.cell? ⟨g, 0, none⟩ = some a ∧ w.cell? ⟨g, 1, none⟩ = some b ∧ w.cell? ⟨g, 2, none⟩ = some c ∧ w.cell? ⟨g, 3, none⟩ = some d) ∧
      (w.frozen? ⟨g, 0, none⟩ = false ∧ w.frozen? ⟨g, 1, none⟩ = false ∧ w.frozen? ⟨g, 2, none⟩ = false ∧ w.frozen? ⟨g, 3, none⟩ = false) := by
  simp [World.cell?, World.frozen?, h]
theorem cells_setCell {w : World} {b j : Nat} {c : Array Value} {t : TypeId} (h : w.heap[b]? = some (.cells c t (0, 0))) (v : Value) : (w.setCell ⟨b, j, none⟩ v).heap[b]? = some (.cells (c.setIfInBounds j v) t (0, 0)) := by
  have hlt := lt_of_block h
  have h' : w.heap[b] = .cells c t (0, 0) := by simpa [Array.getElem?_eq_getElem hlt] using h
  show (w.heap.modify b _)[b]? = _
  rw [Array.getElem?_eq_getElem (by simpa using hlt), Array.getElem_modify_self, h']
  rfl
abbrev ez : Value := .string ⟨#[]⟩
set_option maxHeartbeats 2000000 in
theorem parse_two_any (s : ByteArray) (a b : Bs) (w : World) (hm : MaxL w) (hs : s.size < 20000) (hp : pieces cm s.data.toList = [a, b]) :
    Calls Tryd.prog 15 #[.string s] w fun e w' => e = .returned (pv (parse s.data.toList)) ∧ Below w.heap.size w w' := by
  rw [parse_two hp]
  have ha := sp_mem cm s.data.toList a (by rw [hp]; simp)
  have hb := sp_mem cm s.data.toList b (by rw [hp]; simp)
  rw [size_list] at ha hb
  obtain ⟨a1, a2, a3, a4⟩ := words_lens a
  obtain ⟨b1, b2, b3, b4⟩ := words_lens b
  have A4 := Lib.hid a4
  have HP := Lib.hid hp
  clear a4 b4 hp
  go_enter Tryd.func15, Tryd.ntmps15
  go_wp2_with fail
  refine (ssplit_any s _ (hm.alloc _) (by omega)).mono ?_
  rintro e w1 ⟨v, rfl, hr, hb1⟩
  rw [HP.out] at hr
  obtain ⟨g, off, cap, rfl, q1, q2, q3, q4⟩ := hr.cells (by simp)
  have c0 := q4 0 (by simp)
  have c1 := q4 1 (by simp)
  simp only [List.getElem_cons_zero, List.getElem_cons_succ, Nat.add_zero] at c0 c1
  have hz := hb1.size
  simp only [World.size_alloc] at hz
  clear q4
  go_wp2_with fail
  refine (words_any (bs a) _ (by rw [bs_size]; omega)).mono ?_
  rintro e w2 ⟨v2, rfl, hr2, hb2⟩
  rw [bs_list] at hr2
  have c1' := (hb2.cell (p := ⟨g, off + 1, none⟩) q1).trans c1
  go_wp2_with fail
  refine (words_any (bs b) _ (by rw [bs_size]; omega)).mono ?_
  rintro e w3 ⟨v3, rfl, hr3, hb3⟩
  rw [bs_list] at hr3
  go_wp2_with fail
  refine (join_any _ _ _ hr3 (by omega) (by omega)).mono ?_
  rintro e w4 ⟨rfl, hb4⟩
  have hb24 := below_via hb3 hb4
  go_wp2_with fail
  refine (vonLast_any v2 _ _ (((Row.step hr2 hb24).alloc (Nat.le_refl _) _).more (by simp)) (by omega) (by omega) A4.out).mono ?_
  rintro e w5 ⟨rfl, hb5⟩
  have e1 : w5.heap[w4.heap.size]? = some (.cells #[vs (Tx.join (words b)), ez, ez, ez] 28 (0, 0)) := (hb5.block _ (by simp)).trans (heap_alloc_new _ _)
  have e2 : w5.heap[w.heap.size]? = some (.cells #[ez, ez, ez, ez] 28 (0, 0)) := by
    have h1 := hb2.size
    have h2 := hb24.size
    rw [hb5.block _ (by simp; omega), Below.heap_alloc _ _ _ (by omega), hb24.block _ (by omega), hb2.block _ (by omega), hb1.block _ (by simp), heap_alloc_new]
  obtain ⟨⟨f0, f1, f2, f3⟩, g0, g1, g2, g3⟩ := four_cells e1
  obtain ⟨⟨f4, f5, f6, f7⟩, g4, g5, g6, g7⟩ := four_cells e2
  have hlt1 := lt_of_block e1
  have hlt2 := lt_of_block e2
  have hne : ¬ w.heap.size = w4.heap.size := by
    have := hb2.size; have := hb24.size; omega
  clear e1 e2
  go_wp2_with fail
  refine bodyPost_ret (v := pv _) (by simp [results, Tryd.f15, go_sem, f4, f5, f6, f7] <;> rfl) rfl ⟨rfl, ?_⟩
  have k1 : Below w.heap.size w w1 := below_lit (Below.refl _ _) (Nat.le_refl _) _ hb1 (by simp)
  have k2 : Below w.heap.size w w4 := below_via (below_via k1 hb2) hb24
  have k3 : Below w.heap.size w w5 := below_lit k2 k2.size _ hb5 (by have := k2.size; simp; omega)
  have := k2.size
  repeat (refine Below.setCell ?_ (by first | exact Nat.le_refl _ | assumption) _)
  exact k3

set_option maxHeartbeats 2000000 in
theorem parse_more_any (s : ByteArray) (a b c : Bs) (r : List Bs) (w : World) (hm : MaxL w) (hs : s.size < 20000) (hp : pieces cm s.data.toList = a :: b :: c :: r) :
    Calls Tryd.prog 15 #[.string s] w fun e w' => e = .returned (pv (parse s.data.toList)) ∧ Below w.heap.size w w' := by
  rw [parse_more hp]
  have ha := sp_mem cm s.data.toList a (by rw [hp]; simp)
  have hb := sp_mem cm s.data.toList b (by rw [hp]; simp)
  have hc := sp_mem cm s.data.toList c (by rw [hp]; simp)
  have hpl := pieces_length cm s.data.toList
  rw [size_list] at ha hb hc hpl
  rw [hp] at hpl
  obtain ⟨a1, a2, a3, a4⟩ := words_lens a
  obtain ⟨b1, b2, b3, b4⟩ := words_lens b
  obtain ⟨d1, d2, d3, d4⟩ := words_lens c
  have A4 := Lib.hid a4
  have HP := Lib.hid hp
  have hl1 : (1 : Int) < ((a :: b :: c :: r).length : Int) := by simp; omega
  have hl2 : (2 : Int) < ((a :: b :: c :: r).length : Int) := by simp; omega
  have hl0 : (0 : Int) < ((a :: b :: c :: r).length : Int) := by simp; omega
  clear a4 b4 d4 hp
  go_enter Tryd.func15, Tryd.ntmps15
  go_wp2_with fail
  refine (ssplit_any s _ (hm.alloc _) (by omega)).mono ?_
  rintro e w1 ⟨v, rfl, hr, hb1⟩
  rw [HP.out] at hr
  obtain ⟨g, off, cap, rfl, q1, q2, q3, q4⟩ := hr.cells (by simp)
  have c0 := q4 0 (by simp)
  have c1 := q4 1 (by simp)
  have c2 := q4 2 (by simp)
  simp only [List.getElem_cons_zero, List.getElem_cons_succ, Nat.add_zero] at c0 c1 c2
  have hz := hb1.size
  simp only [World.size_alloc] at hz
  obtain ⟨L, hL⟩ : ∃ L, L = (a :: b :: c :: r).length := ⟨_, rfl⟩
  rw [← hL] at hl0 hl1 hl2 q2 hpl ⊢
  clear q4 hL hr
  go_wp2_with fail
  refine (words_any (bs a) _ (by rw [bs_size]; omega)).mono ?_
  rintro e w2 ⟨v2, rfl, hr2, hb2⟩
  rw [bs_list] at hr2
  have c1' := (hb2.cell (p := ⟨g, off + 1, none⟩) q1).trans c1
  go_wp2_with fail
  refine (words_any (bs b) _ (by rw [bs_size]; omega)).mono ?_
  rintro e w3 ⟨v3, rfl, hr3, hb3⟩
  rw [bs_list] at hr3
  go_wp2_with fail
  refine (join_any _ _ _ hr3 (by omega) (by omega)).mono ?_
  rintro e w4 ⟨rfl, hb4⟩
  have hb24 := below_via hb3 hb4
  have k1 : Below w.heap.size w w1 := below_lit (Below.refl _ _) (Nat.le_refl _) _ hb1 (by simp)
  have k14 := below_via hb2 hb24
  have k2 : Below w.heap.size w w4 := below_via k1 k14
  have c2' := (k14.cell (p := ⟨g, off + 2, none⟩) q1).trans c2
  have q14 : g < w4.heap.size := Nat.lt_of_lt_of_le q1 k14.size
  go_wp2_with fail
  obtain ⟨W, hW⟩ : ∃ W, W = w4.alloc (.cells #[vs (Tx.join (words b)), ez, ez, ez] 28) := ⟨_, rfl⟩
  have HR2 := Lib.hid (Row.step hr2 hb24)
  have kW : Below w4.heap.size w4 W := hW ▸ (Below.refl _ _).alloc (Nat.le_refl _) _
  have e1 : W.heap[w4.heap.size]? = some (.cells #[vs (Tx.join (words b)), ez, ez, ez] 28 (0, 0)) := hW ▸ heap_alloc_new _ _
  have e2 : W.heap[w.heap.size]? = some (.cells #[ez, ez, ez, ez] 28 (0, 0)) := by
    have h1 := k14.size
    rw [kW.block _ (by omega), k14.block _ (by omega), hb1.block _ (by simp), heap_alloc_new]
  obtain ⟨⟨f0, f1, f2, f3⟩, g0, g1, g2, g3⟩ := four_cells e1
  have c2W := (kW.cell (p := ⟨g, off + 2, none⟩) q14).trans c2'
  have hlt1 := lt_of_block e1
  rw [← hW]
  have HW := Lib.hid hW
  have E12 := Lib.hid (And.intro e1 e2)
  have hgne : ¬ g = w4.heap.size := by omega
  clear hW e1 e2 c0 c1 c1' c2 c2' hr2 hr3
  go_cut [3] (fun r wx => r = .slice (some ⟨g, off, none⟩) L cap ∧ wx.heap[w4.heap.size]? = some (.cells #[vs (Tx.join (words c)), ez, ez, vs (Tx.join (words b))] 28 (0, 0)) ∧ Below w4.heap.size w4 wx)
  case first =>
    go_region_with (first
      | (go_at_call 10; refine (words_any (bs c) _ (by rw [bs_size]; omega)).mono ?_; rintro e w5 ⟨v5, rfl, hr5, hb5⟩; rw [bs_list] at hr5; have e5 := (hb5.block w4.heap.size hlt1).trans E12.out.1; have hlt5 := lt_of_block e5; have c25 := (hb5.cell (p := ⟨g, off + 2, none⟩) (Nat.lt_trans q14 hlt1)).trans c2W; have H5 := Lib.hid e5; obtain ⟨⟨f05, f15, f25, f35⟩, g05, g15, g25, g35⟩ := four_cells e5; clear e5)
      | (go_at_call 34; refine (join_any _ _ _ hr5 (by omega) (by omega)).mono ?_; rintro e w6 ⟨rfl, hb6⟩; have e6 := (hb6.block w4.heap.size hlt5).trans H5.out; have hlt6 := lt_of_block e6; have H6 := Lib.hid e6; obtain ⟨⟨f06, f16, f26, f36⟩, g06, g16, g26, g36⟩ := four_cells e6; clear e6))
    all_goals
      go_wp2_with fail
      go_meet
      refine ⟨rfl, ?_, ?_⟩
      · first | exact cells_setCell (cells_setCell H6.out _) _
      · exact (((kW.drew).trans (hb5.mono kW.size)).trans (hb6.mono (Nat.le_of_lt hlt5))).setCell (Nat.le_refl _) _ |>.setCell (Nat.le_refl _) _
  case rest =>
    obtain ⟨rfl, e3, kc⟩ := hcut
    refine ?_
    go_wp2_with fail
    refine (vonLast_any v2 _ _ (Row.step HR2.out kc) (by omega) (by omega) A4.out).mono ?_
    rintro e w7 ⟨rfl, hb7⟩
    have hl3 := lt_of_block e3
    have e5 := (hb7.block _ hl3).trans e3
    have e6 : w7.heap[w.heap.size]? = some (.cells #[ez, ez, ez, ez] 28 (0, 0)) := by
      have h1 := k14.size
      rw [hb7.block _ (by omega), kc.block _ (by omega), k14.block _ (by omega), hb1.block _ (by simp), heap_alloc_new]
    obtain ⟨⟨f0, f1, f2, f3⟩, g0, g1, g2, g3⟩ := four_cells e5
    obtain ⟨⟨f4, f5, f6, f7⟩, g4, g5, g6, g7⟩ := four_cells e6
    have hlt1 := lt_of_block e5
    have hlt2 := lt_of_block e6
    have hne : ¬ w.heap.size = w4.heap.size := by have := k14.size; omega
    clear e3 e5 e6
    go_wp2_with fail
    refine bodyPost_ret (v := pv _) (by simp [results, Tryd.f15, go_sem, f4, f5, f6, f7] <;> rfl) rfl ⟨rfl, ?_⟩
    have k3 : Below w.heap.size w w7 := below_via (below_via k2 kc) hb7
    have := k2.size
    repeat (refine Below.setCell ?_ (by first | exact Nat.le_refl _ | assumption) _)
    exact k3
end Go.Proofs.YtmnekomoiffebaaDoor
