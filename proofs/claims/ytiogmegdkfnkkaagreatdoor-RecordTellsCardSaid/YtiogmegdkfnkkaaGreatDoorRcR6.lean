/- The reference's one. -/
import Derived.Test.YtiogmegdkfnkkaaGreatDoorRcR5
import Derived.Test.YtiogmegdkfnkkaaGreatDoorRcR0
import Derived.Test.YtiogmegdkfnkkaaGreatDoorQ11
namespace Go.Proofs.YtiogmegdkfnkkaaGreatDoor
open Go.RowKit Go.Lib Go.Sort Tx

/-- All texts, in a row of the call's own. -/
def AllNew (s : Bs) (w : World) (e : Ending) (w' : World) : Prop :=
  Below w.heap.size w w' ∧ ∃ v, e = .returned (.tuple #[v, .int .i64 (allE s : Nat)]) ∧ Row vs w' w'.heap.size v (allL s) ∧ ∀ k, v.ownBlock = some k → w.heap.size ≤ k
set_option maxHeartbeats 4000000 in
theorem rAll_new (s : Bs) (w : World) (hs : s.length ≤ 1000000) :
    Calls Tryz.prog 21 #[vs s] w (AllNew s w) := by
  have hz := bs_size s
  have hmade : Txs w.heap.size (w.alloc (.cells #[] 9)) (.slice (some ⟨w.heap.size, 0, none⟩) 0 0) [] := World.ownsRow_made w #[] 0 (Nat.le_refl _) (by decide) (by simp)
  go_enter Tryz.func21, Tryz.ntmps21
  go_wp2_with fail
  go_loopw [4, 5] (fun o i wr => ∃ (p : Nat) (l : List Bs), p ≤ s.length ∧ i = .int .i64 p ∧ l.length ≤ p ∧ Txs w.heap.size wr o l ∧ Below w.heap.size w wr ∧ AllRel s p l) (fun _ i _ => s.length - (RowKit.intOf i).toNat)
  case atStart => exact ⟨0, [], Nat.zero_le _, rfl, Nat.le_refl _, hmade, (Below.refl _ _).alloc (Nat.le_refl _) _, AllRel.start s⟩
  case round =>
    obtain ⟨p, l, hp, rfl, hll, ho, hbel, hr⟩ := hrel
    have hle := hbel.size
    clear hmade
    by_cases hlt : p < s.length
    · have hpi : (p : Int) < ((bs s).size : Int) := by omega
      have HC := Lib.hid (rGet_any s p 999999 wr (by omega) ⟨by omega, by omega⟩ ⟨by omega, by omega⟩)
      have HR := Lib.hid hr
      have HO := Lib.hid ho
      clear hr ho
      match hgr : getR s p 999999 with
      | .error y =>
        have hy := getR_err hgr
        rw [hgr] at HC
        have hy0 : ((y : Int) != 0) = true := by simp; omega
        have HQ := Lib.hid (AllRel.err HR.out hlt hgr)
        clear hgr hy
        go_wp2_with fail
        refine HC.out.mono ?_
        rintro e w2 ⟨rfl, rfl⟩
        unfold gX gQ gE
        go_wp2_with fail
        go_ret2
        exact ⟨hbel, .slice none 0 0, by rw [HQ.out.2]; rfl, by rw [HQ.out.1]; exact Row.nil _ _ _ _ _ (Nat.zero_le _), fun k h => (by cases h)⟩
      | .ok (x, q) =>
        have HQ := Lib.hid (AllRel.step HR.out hp hgr)
        obtain ⟨q1, q2, _⟩ := getR_ok hp hgr
        rw [hgr] at HC
        clear hgr
        go_wp2_with fail
        refine HC.out.mono ?_
        rintro e w2 ⟨rfl, rfl⟩
        unfold gX gQ gE
        go_wp2_with (at_builtin; refine app_text rfl (.tmp 24) (.tmp 26) rfl w.heap.size _ l x rfl rfl HO.out hle (by omega) ?_; intro v' w4 h8 h9 h10)
        go_roundw
        case rel => exact ⟨q, l ++ [x], q2, rfl, by simp; omega, h8, hbel.trans h9, HQ.out⟩
        case measure => simp [RowKit.intOf]; omega
    · obtain rfl : p = s.length := by omega
      have HQ := Lib.hid (AllRel.stop hr)
      clear hr
      go_wp2_with fail
      go_ret2
      exact ⟨hbel, _, by rw [HQ.out.2]; rfl, by rw [HQ.out.1]; exact ho.row, fun k h => (World.ownsRow.lt ho k h).1⟩
theorem puts_mem (L : List Bs) (x : Bs) (h : x ∈ L) : x.length ≤ (Wr.puts L).length := by
  induction L with
  | nil => cases h
  | cons a L ih =>
    have e : (Wr.puts (a :: L)).length = (Wr.put a).length + (Wr.puts L).length := by simp [Wr.puts]
    rcases List.mem_cons.1 h with rfl | h
    · have := put_ge x; omega
    · have := ih h; omega
theorem puts_cnt (L : List Bs) : 3 * L.length ≤ (Wr.puts L).length := by
  induction L with
  | nil => simp
  | cons a L ih =>
    have e : (Wr.puts (a :: L)).length = (Wr.put a).length + (Wr.puts L).length := by simp [Wr.puts]
    have := Wr.put_len a
    simp only [List.length_cons]
    omega
theorem allL_le2 (s : Bs) : 3 * (allL s).length ≤ s.length ∧ ∀ x ∈ allL s, x.length ≤ s.length := by
  unfold allL
  match h : Wr.all s with
  | .error y => simp
  | .ok L =>
    obtain ⟨h1, _⟩ := Wr.all_inv s.length s L (Nat.le_refl _) h
    have h2 := puts_cnt L
    have h3 := puts_mem L
    rw [← h1] at h2 h3
    exact ⟨h2, h3⟩
theorem part_le (s : Bs) (i : Nat) : (Rc.part (allL s) i).length ≤ s.length := by
  by_cases h : i < (allL s).length
  · rw [part_in _ _ h]; exact (allL_le2 s).2 _ (List.getElem_mem h)
  · rw [part_out _ _ (by omega)]; simp
theorem sl_cell {x : World} {R : Nat} {s : ByteArray} {A1 A2 : Option Addr} {n1 c1 n2 c2 : Nat} {t : TypeId} {k : Nat} {u : Value} (h : x.heap[R]? = some (.cells #[.string s, .slice A1 n1 c1, .slice A2 n2 c2] t (0, 0))) (hu : x.cell? ⟨R, k + 1, none⟩ = some u) : ∃ A n c, u = .slice A n c := by
  rw [cell_of_row _ R (k + 1) _ t (0, 0) h] at hu
  rcases k with _ | _ | k
  · simp at hu; exact ⟨_, _, _, hu.symm⟩
  · simp at hu; exact ⟨_, _, _, hu.symm⟩
  · simp at hu
theorem part_len (l : List Bs) (m : Nat) (h : ∀ x ∈ l, x.length ≤ m) (i : Nat) : (Rc.part l i).length ≤ m := by
  by_cases hi : i < l.length
  · rw [part_in _ _ hi]; exact h _ (List.getElem_mem hi)
  · rw [part_out _ _ (by omega)]; simp
theorem Row.blkK {α : Type} {f : α → Value} {w w' : World} {B B' : Nat} {v : Value} {xs : List α} (h : Row f w B v xs) (hB : B ≤ B') (hk : ∀ b, v.ownBlock = some b → b < B → w'.heap[b]? = w.heap[b]?) : Row f w' B' v xs := by
  obtain ⟨cap, h1, h2, h3⟩ := h
  refine ⟨cap, h1, h2, ?_⟩
  rcases h3 with h3 | ⟨b, off, hv, hb, hc⟩
  · exact .inl h3
  · exact .inr ⟨b, off, hv, by omega, fun j hj => (World.cell?_of_block (a := ⟨b, off + j, none⟩) (hk b (by rw [hv]; rfl) hb)).trans (hc j hj)⟩
set_option maxRecDepth 100000 in
set_option maxHeartbeats 16000000 in
theorem rone_any (s : Bs) (w : World) (hs : s.length ≤ 1000000) :
    Calls Tryz.prog 22 #[vs s] w fun e w' => ∃ r : Raw, e = .returned (.agg #[.string (bs r.1), r.2.1, r.2.2]) ∧ RecIs w' w'.heap.size r (Rc.one s) ∧ Below w.heap.size w w' ∧ (∀ b, blkOf r.2.1 = some b → w.heap.size ≤ b) ∧ ∀ b, blkOf r.2.2 = some b → w.heap.size ≤ b := by
  have HONE : Hid (Rc.one s = (Rc.part (allL s) 0, Rc.seens (allL (Rc.part (allL s) 1)), parL (Rc.part (allL s) 2))) := Lib.hid rfl
  have hb0 : Below w.heap.size w (w.alloc (.cells #[.string ⟨#[]⟩, .slice none 0 0, .slice none 0 0] 52)) := (Below.refl _ _).alloc (Nat.le_refl _) _
  have hR0 : (w.alloc (.cells #[.string ⟨#[]⟩, .slice none 0 0, .slice none 0 0] 52)).heap[w.heap.size]? = some (.cells #[.string ⟨#[]⟩, .slice none 0 0, .slice none 0 0] 52 (0, 0)) := heap_alloc_new _ _
  have HA := Lib.hid (fun wx => rAll_any s wx hs)
  have hpl : ∀ i, (Rc.part (allL s) i).length ≤ 1000000 := fun i => Nat.le_trans (part_le s i) hs
  have HPL := Lib.hid hpl
  have hall := allL_le2 s
  clear hpl
  go_enter Tryz.func22, Tryz.ntmps22
  go_wp2_with fail
  obtain ⟨W, hW⟩ : ∃ W, W = w.alloc (.cells #[.string ⟨#[]⟩, .slice none 0 0, .slice none 0 0] 52) := ⟨_, rfl⟩
  rw [← hW] at hb0 hR0 ⊢
  clear hW
  obtain ⟨R, hR⟩ : ∃ R, R = w.heap.size := ⟨_, rfl⟩
  rw [← hR] at hR0 ⊢
  have HRE := Lib.hid hR
  clear hR
  refine (HA.out W).mono ?_
  rintro e w1 ⟨b1, v1, rfl, P1⟩
  obtain ⟨A1, p1, rfl, _⟩ := P1.shape
  have HP1 := Lib.hid P1
  have hR1 := (b1.block R (lt_of_block hR0)).trans hR0
  have HB1 := Lib.hid (below_via hb0 b1)
  clear P1 hR0 b1 hb0 HA
  generalize allE s = es at *
  generalize allL s = ps at *
  have H0 := Lib.hid (fun wx (hb : Below w1.heap.size w1 wx) i (hi : i ≤ 1000000000) => rpart_any _ ps i wx (HP1.out.step hb) (by omega) hi)
  go_wp2_with fail
  refine (H0.out w1 (Below.refl _ _) 0 (by omega)).mono ?_
  rintro e w2 ⟨rfl, rfl⟩
  go_upto_region 3 with fail
  obtain ⟨W3, hW3⟩ : ∃ W, W = w1.alloc (.cells #[.string (bs (Rc.part ps 0)), .slice none 0 0, .slice none 0 0] 52) := ⟨_, rfl⟩
  have b3 : Below w1.heap.size w1 W3 := by rw [hW3]; exact (Below.refl _ _).alloc (Nat.le_refl _) _
  have hX3 : W3.heap[w1.heap.size]? = some (.cells #[.string (bs (Rc.part ps 0)), .slice none 0 0, .slice none 0 0] 52 (0, 0)) := by rw [hW3]; exact heap_alloc_new _ _
  rw [← hW3]
  clear hW3
  obtain ⟨X, hX⟩ : ∃ X, X = w1.heap.size := ⟨_, rfl⟩
  rw [← hX] at hX3 ⊢
  have hRX : R < X := by rw [hX]; exact lt_of_block hR1
  have HXE := Lib.hid hX
  clear hX
  have hR3 := (b3.block R (lt_of_block hR1)).trans hR1
  have HB3 := Lib.hid (below_via HB1.out b3)
  have HQ3 := Lib.hid b3
  clear b3 hR1
  have H3 := H0.out W3 HQ3.out 1 (by omega)
  have HLR := Lib.hid (allL_le2 (Rc.part ps 1))
  have HAL := Lib.hid (rAll_new (Rc.part ps 1) W3 (HPL.out 1))
  have HPA := Lib.hid (fun wx => rParse_own (Rc.part ps 2) wx (HPL.out 2))
  have hl1 := HPL.out 1
  go_wp2_with fail
  refine H3.mono ?_
  rintro e w4 ⟨rfl, rfl⟩
  go_wp2_with fail
  refine HAL.out.mono ?_
  rintro e w5 ⟨b5, v5, rfl, P5, hn5⟩
  obtain ⟨A5, p5, rfl, c1, c2, c3⟩ := P5.shape
  have HC5 := Lib.hid c3
  have HP5 := Lib.hid P5
  have HN5 := Lib.hid hn5
  have hX5 := (b5.block X (lt_of_block hX3)).trans hX3
  have hX3' : X < W3.heap.size := lt_of_block hX3
  have hR5 := (b5.block R (lt_of_block hR3)).trans hR3
  have HB5 := Lib.hid (below_via HB3.out b5)
  have HQ5 := Lib.hid (below_via HQ3.out b5)
  have hrl := HLR.out.1
  clear H3 HAL P5 c3 b5 hn5 hX3 hR3
  generalize allE (Rc.part ps 1) = es1 at *
  generalize allL (Rc.part ps 1) = rl at *
  have hX5l : X < w5.heap.size := lt_of_block hX5
  have hR5l : R < w5.heap.size := lt_of_block hR5
  go_upto_block 0 with fail
  go_cut [] (fun wx => ∃ rv, wx.heap[X]? = some (.cells #[.string (bs (Rc.part ps 0)), rv, .slice none 0 0] 52 (0, 0)) ∧ OwnC 72 3 sf w5.heap.size wx rv (Rc.seens rl) ∧ w5.grownBy wx (some X))
  case first =>
    go_wp2_with fail
    go_loopw [8] (fun i wr => ∃ (j : Nat) (rv : Value), 2 * j ≤ rl.length + 1 ∧ i = .int .i64 (2 * j : Nat) ∧ wr.heap[X]? = some (.cells #[.string (bs (Rc.part ps 0)), rv, .slice none 0 0] 52 (0, 0)) ∧ OwnC 72 3 sf w5.heap.size wr rv ((Rc.seens rl).take j) ∧ w5.grownBy wr (some X)) (fun i _ => rl.length + 1 - (RowKit.intOf i).toNat)
    case atStart => exact ⟨0, _, by omega, rfl, hX5, OwnC.nil _ _ _ _ _, ⟨rfl, rfl, rfl, Nat.le_refl _, fun _ _ _ => rfl⟩⟩
    case round =>
      obtain ⟨j, rv, hj, rfl, hXr, hown, hgr⟩ := hrel
      by_cases hlt : 2 * j < rl.length
      · obtain ⟨b, off, rfl, hbl, hc⟩ := HC5.out (by rintro rfl; simp at hlt)
        have hbX : X < b := by have := HN5.out b rfl; exact Nat.lt_of_lt_of_le hX3' this
        have hgs := hgr.size
        have k1 := (World.cell?_of_block (a := ⟨b, off + 2 * j, none⟩) (hgr.block b hbl (fun e => by injection e with e; omega))).trans (hc (2 * j) hlt)
        have HS0 := Lib.hid (seens_step rl j hlt)
        have HPT := Lib.hid (rpart_any _ rl (2 * j + 1) wr (HP5.out.blkK hgs (fun k hv hk => hgr.block k hk (fun e => by injection e with e; have := HN5.out k hv; omega))) (by omega) (by omega))
        have hol : ((Rc.seens rl).take j).length ≤ j := by simp; omega
        have HST : Hid ((Rc.part rl (2 * j + 1)).length ≤ 1000000) := Lib.hid (part_len rl 1000000 (fun x hx => Nat.le_trans (HLR.out.2 x hx) hl1) (2 * j + 1))
        generalize rl[2 * j] = n at *
        generalize hst : Rc.part rl (2 * j + 1) = st at *
        have hstl := HST.out
        have HO2 := Lib.hid hown
        obtain ⟨rA, rn, rc, hrv⟩ : ∃ A l c, rv = .slice A l c := by
          obtain ⟨A, c, h, _⟩ := (hown.rowC sf_length).shape
          exact ⟨A, _, c, h⟩
        subst hrv
        clear hc hown hst
        obtain ⟨k, hk⟩ : ∃ k, k = 2 * j := ⟨_, rfl⟩
        rw [← hk] at k1 hlt hj HPT ⊢
        have HK := Lib.hid hk
        have hjk : j < 1000000 := by omega
        clear hk
        have i0 : (0 : Int) ≤ (k : Int) := by omega
        have i1 : (k : Int) < (rl.length : Int) := by omega
        have hw : IntKind.i64.wrap ((k : Int) + 1) = ((k + 1 : Nat) : Int) := by rw [IntWalk.i64_in _ (by omega)]; omega
        have hw2 : IntKind.i64.wrap ((k : Int) + 2) = ((k + 2 : Nat) : Int) := by rw [IntWalk.i64_in _ (by omega)]; omega
        have hz1 := bs_size st
        have hXl : X < wr.drew.heap.size := by show X < wr.heap.size; omega
        have hbr : b < wr.drew.heap.size := by show b < wr.heap.size; omega
        have HVA := Lib.hid (fun o => (Below.refl wr.drew.heap.size wr.drew).alloc (Nat.le_refl _) o)
        obtain ⟨y0, y1, y2, fx0, fx1, fx2⟩ := cells3 hXr
        by_cases hs1 : st = [45]
        · have HS : Hid ((Rc.seens rl).take (j + 1) = (Rc.seens rl).take j ++ [(n, false, [])]) := Lib.hid (by rw [HS0.out]; unfold seenR; rw [if_pos (.inl hs1)])
          have e45 : ((bs st).toList == [45]) = true := by rw [toListB, hs1]; rfl
          clear hs1
          go_wp2_with fail
          refine HPT.out.mono ?_
          rintro e w6' ⟨rfl, rfl⟩
          go_upto_region 9 with fail
          have hS0 : (fun wz : World => wz.cell? ⟨X, 1, none⟩ = some (.slice rA rn rc) ∧ wz.cell? ⟨b, off + k, none⟩ = some (.string (bs n))) wr.drew := ⟨y1, k1⟩
          refine wp_region_headS 8 (fun wz : World => wz.cell? ⟨X, 1, none⟩ = some (.slice rA rn rc) ∧ wz.cell? ⟨b, off + k, none⟩ = some (.string (bs n))) (by kernel_rfl) (by kernel_rfl) ?_
          refine WS_take (i := 0) (v := ?va0) (by simp only [List.getElem?_toArray, List.getElem?_cons_zero]; rfl) (by decide) (by kernel_rfl) (by kernel_rfl) (by intro _ _ _ h; exact h) (Or.inl ⟨by rfl, ?hya0⟩) hS0 ?resta0
          case hya0 =>
            intro wx hx
            obtain ⟨s1, s2⟩ := hx
            go_simp
            try with_reducible rfl
          try simp only [Act.put, List.setIfInBounds_toArray, List.set_cons_zero, List.set_cons_succ]
          refine WS_take (i := 1) (v := ?va1) (by simp only [List.getElem?_toArray, List.getElem?_cons_succ, List.getElem?_cons_zero]; rfl) (by decide) (by kernel_rfl) (by kernel_rfl) (by intro _ _ _ h; exact h) (Or.inl ⟨by rfl, ?hya1⟩) hS0 ?resta1
          case hya1 =>
            intro wx hx
            obtain ⟨s1, s2⟩ := hx
            go_simp
            try with_reducible rfl
          try simp only [Act.put, List.setIfInBounds_toArray, List.set_cons_zero, List.set_cons_succ]
          refine WS_take (i := 2) (v := ?va2) (by simp only [List.getElem?_toArray, List.getElem?_cons_succ, List.getElem?_cons_zero]; rfl) (by decide) (by kernel_rfl) (by kernel_rfl) (by intro _ _ _ h; exact h) (Or.inl ⟨by rfl, ?hya2⟩) hS0 ?resta2
          case hya2 =>
            intro wx hx
            obtain ⟨s1, s2⟩ := hx
            go_simp
            try with_reducible rfl
          try simp only [Act.put, List.setIfInBounds_toArray, List.set_cons_zero, List.set_cons_succ]
          refine WS_take (i := 3) (v := ?va3) (by simp only [List.getElem?_toArray, List.getElem?_cons_succ, List.getElem?_cons_zero]; rfl) (by decide) (by kernel_rfl) (by kernel_rfl) (by intro _ _ _ h; exact h) (Or.inl ⟨by rfl, ?hya3⟩) hS0 ?resta3
          case hya3 =>
            intro wx hx
            obtain ⟨s1, s2⟩ := hx
            go_simp
            try with_reducible rfl
          try simp only [Act.put, List.setIfInBounds_toArray, List.set_cons_zero, List.set_cons_succ]
          refine WS_take (i := 4) (v := ?va4) (by simp only [List.getElem?_toArray, List.getElem?_cons_succ, List.getElem?_cons_zero]; rfl) (by decide) (by kernel_rfl) (by kernel_rfl) (by intro _ _ _ h; exact h) (Or.inl ⟨by rfl, ?hya4⟩) hS0 ?resta4
          case hya4 =>
            intro wx hx
            obtain ⟨s1, s2⟩ := hx
            go_simp
            try with_reducible rfl
          try simp only [Act.put, List.setIfInBounds_toArray, List.set_cons_zero, List.set_cons_succ]
          refine WS_take (i := 5) (v := ?va5) (by simp only [List.getElem?_toArray, List.getElem?_cons_succ, List.getElem?_cons_zero]; rfl) (by decide) (by kernel_rfl) (by kernel_rfl) (by intro _ _ _ h; exact h) (Or.inl ⟨by rfl, ?hya5⟩) hS0 ?resta5
          case hya5 =>
            intro wx hx
            obtain ⟨s1, s2⟩ := hx
            go_simp
            try with_reducible rfl
          try simp only [Act.put, List.setIfInBounds_toArray, List.set_cons_zero, List.set_cons_succ]
          refine WS_take (i := 6) (v := ?va6) (by simp only [List.getElem?_toArray, List.getElem?_cons_succ, List.getElem?_cons_zero]; rfl) (by decide) (by kernel_rfl) (by kernel_rfl) (by intro _ _ _ h; exact h) (Or.inl ⟨by rfl, ?hya6⟩) hS0 ?resta6
          case hya6 =>
            intro wx hx
            obtain ⟨s1, s2⟩ := hx
            go_simp
            try with_reducible rfl
          try simp only [Act.put, List.setIfInBounds_toArray, List.set_cons_zero, List.set_cons_succ]
          refine WS_one (i := 7) (by simp only [List.getElem?_toArray, List.getElem?_cons_succ, List.getElem?_cons_zero]; rfl) (by decide) (by kernel_rfl) (fun K hK => ?_)
          go_simp
          refine hK _ _ ?_ ?_
          · exact ⟨((HVA.out _).cell (p := ⟨X, 1, none⟩) hXl).trans y1, ((HVA.out _).cell (p := ⟨b, off + k, none⟩) hbr).trans k1⟩
          · refine WS_done (by kernel_rfl) ?_
            simp only [List.drop_succ_cons, List.drop_zero]
            clear hK K
            go_wp2_with (at_builtin; refine wpList_seenG 50 72 Tryz.underlying50 snInfo (by rfl) (.tmp 43) (.tmp 49) (by rfl) w5.heap.size _ ((Rc.seens rl).take j) (n, false, []) (by rfl) wr.heap.size (by rfl) (by rfl) (HO2.out.below (below_of_drewN (a := wr) (B := wr.heap.size) 1)) hgs (by omega) ?_; intro v' w6 h8 h9; have hX6 := (h9.block X hX5l).trans hXr; obtain ⟨A6, n6, c6, rfl⟩ : ∃ A n c, v' = .slice A n c := (by obtain ⟨g4, c4', hv4, _⟩ := h8.shape sf_length (by simp); exact ⟨_, _, _, hv4⟩); obtain ⟨z0, z1, z2, fy0, fy1, fy2⟩ := cells3 hX6; dsimp only)
            go_roundw
            case rel => exact ⟨j + 1, _, by have := HK.out; omega, by have := HK.out; congr 1; omega, cells_setCell hX6 _, by rw [HS.out]; exact h8.heap fun k5 hk5 => setCell_oth w6 X 1 k5 _ (fun e5 => by have h10 := (h8.lt k5 hk5).1; omega), grown_step hgr (below_of_drewN (a := wr) (B := wr.heap.size) 1) h9 _ _⟩
            case measure => have := HK.out; simp [RowKit.intOf]; omega
        · have e45 : ((bs st).toList == [45]) = false := by rw [toListB]; exact beq_eq_false_iff_ne.2 hs1
          by_cases hs0 : st = []
          · have HS : Hid ((Rc.seens rl).take (j + 1) = (Rc.seens rl).take j ++ [(n, false, [])]) := Lib.hid (by rw [HS0.out]; unfold seenR; rw [if_pos (.inr hs0)])
            have e0 : ((bs st).toList == []) = true := by rw [toListB, hs0]; rfl
            clear hs1 hs0
            go_wp2_with fail
            refine HPT.out.mono ?_
            rintro e w6' ⟨rfl, rfl⟩
            go_upto_region 9 with fail
            have hS0 : (fun wz : World => wz.cell? ⟨X, 1, none⟩ = some (.slice rA rn rc) ∧ wz.cell? ⟨b, off + k, none⟩ = some (.string (bs n))) wr.drew := ⟨y1, k1⟩
            refine wp_region_headS 8 (fun wz : World => wz.cell? ⟨X, 1, none⟩ = some (.slice rA rn rc) ∧ wz.cell? ⟨b, off + k, none⟩ = some (.string (bs n))) (by kernel_rfl) (by kernel_rfl) ?_
            refine WS_take (i := 0) (v := ?vb0) (by simp only [List.getElem?_toArray, List.getElem?_cons_zero]; rfl) (by decide) (by kernel_rfl) (by kernel_rfl) (by intro _ _ _ h; exact h) (Or.inl ⟨by rfl, ?hyb0⟩) hS0 ?restb0
            case hyb0 =>
              intro wx hx
              obtain ⟨s1, s2⟩ := hx
              go_simp
              try with_reducible rfl
            try simp only [Act.put, List.setIfInBounds_toArray, List.set_cons_zero, List.set_cons_succ]
            refine WS_take (i := 1) (v := ?vb1) (by simp only [List.getElem?_toArray, List.getElem?_cons_succ, List.getElem?_cons_zero]; rfl) (by decide) (by kernel_rfl) (by kernel_rfl) (by intro _ _ _ h; exact h) (Or.inl ⟨by rfl, ?hyb1⟩) hS0 ?restb1
            case hyb1 =>
              intro wx hx
              obtain ⟨s1, s2⟩ := hx
              go_simp
              try with_reducible rfl
            try simp only [Act.put, List.setIfInBounds_toArray, List.set_cons_zero, List.set_cons_succ]
            refine WS_take (i := 2) (v := ?vb2) (by simp only [List.getElem?_toArray, List.getElem?_cons_succ, List.getElem?_cons_zero]; rfl) (by decide) (by kernel_rfl) (by kernel_rfl) (by intro _ _ _ h; exact h) (Or.inl ⟨by rfl, ?hyb2⟩) hS0 ?restb2
            case hyb2 =>
              intro wx hx
              obtain ⟨s1, s2⟩ := hx
              go_simp
              try with_reducible rfl
            try simp only [Act.put, List.setIfInBounds_toArray, List.set_cons_zero, List.set_cons_succ]
            refine WS_take (i := 3) (v := ?vb3) (by simp only [List.getElem?_toArray, List.getElem?_cons_succ, List.getElem?_cons_zero]; rfl) (by decide) (by kernel_rfl) (by kernel_rfl) (by intro _ _ _ h; exact h) (Or.inl ⟨by rfl, ?hyb3⟩) hS0 ?restb3
            case hyb3 =>
              intro wx hx
              obtain ⟨s1, s2⟩ := hx
              go_simp
              try with_reducible rfl
            try simp only [Act.put, List.setIfInBounds_toArray, List.set_cons_zero, List.set_cons_succ]
            refine WS_take (i := 4) (v := ?vb4) (by simp only [List.getElem?_toArray, List.getElem?_cons_succ, List.getElem?_cons_zero]; rfl) (by decide) (by kernel_rfl) (by kernel_rfl) (by intro _ _ _ h; exact h) (Or.inl ⟨by rfl, ?hyb4⟩) hS0 ?restb4
            case hyb4 =>
              intro wx hx
              obtain ⟨s1, s2⟩ := hx
              go_simp
              try with_reducible rfl
            try simp only [Act.put, List.setIfInBounds_toArray, List.set_cons_zero, List.set_cons_succ]
            refine WS_take (i := 5) (v := ?vb5) (by simp only [List.getElem?_toArray, List.getElem?_cons_succ, List.getElem?_cons_zero]; rfl) (by decide) (by kernel_rfl) (by kernel_rfl) (by intro _ _ _ h; exact h) (Or.inl ⟨by rfl, ?hyb5⟩) hS0 ?restb5
            case hyb5 =>
              intro wx hx
              obtain ⟨s1, s2⟩ := hx
              go_simp
              try with_reducible rfl
            try simp only [Act.put, List.setIfInBounds_toArray, List.set_cons_zero, List.set_cons_succ]
            refine WS_take (i := 6) (v := ?vb6) (by simp only [List.getElem?_toArray, List.getElem?_cons_succ, List.getElem?_cons_zero]; rfl) (by decide) (by kernel_rfl) (by kernel_rfl) (by intro _ _ _ h; exact h) (Or.inl ⟨by rfl, ?hyb6⟩) hS0 ?restb6
            case hyb6 =>
              intro wx hx
              obtain ⟨s1, s2⟩ := hx
              go_simp
              try with_reducible rfl
            try simp only [Act.put, List.setIfInBounds_toArray, List.set_cons_zero, List.set_cons_succ]
            refine WS_one (i := 7) (by simp only [List.getElem?_toArray, List.getElem?_cons_succ, List.getElem?_cons_zero]; rfl) (by decide) (by kernel_rfl) (fun K hK => ?_)
            go_simp
            refine hK _ _ ?_ ?_
            · exact ⟨((HVA.out _).cell (p := ⟨X, 1, none⟩) hXl).trans y1, ((HVA.out _).cell (p := ⟨b, off + k, none⟩) hbr).trans k1⟩
            · refine WS_done (by kernel_rfl) ?_
              simp only [List.drop_succ_cons, List.drop_zero]
              clear hK K
              go_wp2_with (at_builtin; refine wpList_seenG 50 72 Tryz.underlying50 snInfo (by rfl) (.tmp 43) (.tmp 49) (by rfl) w5.heap.size _ ((Rc.seens rl).take j) (n, false, []) (by rfl) wr.heap.size (by rfl) (by rfl) (HO2.out.below (below_of_drewN (a := wr) (B := wr.heap.size) 1)) hgs (by omega) ?_; intro v' w6 h8 h9; have hX6 := (h9.block X hX5l).trans hXr; obtain ⟨A6, n6, c6, rfl⟩ : ∃ A n c, v' = .slice A n c := (by obtain ⟨g4, c4', hv4, _⟩ := h8.shape sf_length (by simp); exact ⟨_, _, _, hv4⟩); obtain ⟨z0, z1, z2, fy0, fy1, fy2⟩ := cells3 hX6; dsimp only)
              go_roundw
              case rel => exact ⟨j + 1, _, by have := HK.out; omega, by have := HK.out; congr 1; omega, cells_setCell hX6 _, by rw [HS.out]; exact h8.heap fun k5 hk5 => setCell_oth w6 X 1 k5 _ (fun e5 => by have h10 := (h8.lt k5 hk5).1; omega), grown_step hgr (below_of_drewN (a := wr) (B := wr.heap.size) 1) h9 _ _⟩
              case measure => have := HK.out; simp [RowKit.intOf]; omega
          · have HS : Hid ((Rc.seens rl).take (j + 1) = (Rc.seens rl).take j ++ [(n, true, st.tail)]) := Lib.hid (by rw [HS0.out]; unfold seenR; rw [if_neg (by simp [hs1, hs0]), List.drop_one])
            have e0 : ((bs st).toList == []) = false := by rw [toListB]; exact beq_eq_false_iff_ne.2 hs0
            have hst1 : 1 ≤ st.length := List.length_pos_iff.2 hs0
            have hex : (bs st).extract 1 st.length = bs st.tail := by rw [bs_extract', List.take_length, List.drop_one]
            have hi1 : (1 : Int) ≤ (st.length : Int) := by omega
            clear hs1 hs0
            go_wp2_with fail
            refine HPT.out.mono ?_
            rintro e w6' ⟨rfl, rfl⟩
            go_upto_region 10 with fail
            have hS0 : (fun wz : World => wz.cell? ⟨X, 1, none⟩ = some (.slice rA rn rc) ∧ wz.cell? ⟨b, off + k, none⟩ = some (.string (bs n))) wr.drew := ⟨y1, k1⟩
            refine wp_region_headS 10 (fun wz : World => wz.cell? ⟨X, 1, none⟩ = some (.slice rA rn rc) ∧ wz.cell? ⟨b, off + k, none⟩ = some (.string (bs n))) (by kernel_rfl) (by kernel_rfl) ?_
            refine WS_take (i := 0) (v := ?vc0) (by simp only [List.getElem?_toArray, List.getElem?_cons_zero]; rfl) (by decide) (by kernel_rfl) (by kernel_rfl) (by intro _ _ _ h; exact h) (Or.inl ⟨by rfl, ?hyc0⟩) hS0 ?restc0
            case hyc0 =>
              intro wx hx
              obtain ⟨s1, s2⟩ := hx
              go_simp
              try with_reducible rfl
            try simp only [Act.put, List.setIfInBounds_toArray, List.set_cons_zero, List.set_cons_succ]
            refine WS_take (i := 1) (v := ?vc1) (by simp only [List.getElem?_toArray, List.getElem?_cons_succ, List.getElem?_cons_zero]; rfl) (by decide) (by kernel_rfl) (by kernel_rfl) (by intro _ _ _ h; exact h) (Or.inl ⟨by rfl, ?hyc1⟩) hS0 ?restc1
            case hyc1 =>
              intro wx hx
              obtain ⟨s1, s2⟩ := hx
              go_simp
              try with_reducible rfl
            try simp only [Act.put, List.setIfInBounds_toArray, List.set_cons_zero, List.set_cons_succ]
            refine WS_take (i := 2) (v := ?vc2) (by simp only [List.getElem?_toArray, List.getElem?_cons_succ, List.getElem?_cons_zero]; rfl) (by decide) (by kernel_rfl) (by kernel_rfl) (by intro _ _ _ h; exact h) (Or.inl ⟨by rfl, ?hyc2⟩) hS0 ?restc2
            case hyc2 =>
              intro wx hx
              obtain ⟨s1, s2⟩ := hx
              go_simp
              try with_reducible rfl
            try simp only [Act.put, List.setIfInBounds_toArray, List.set_cons_zero, List.set_cons_succ]
            refine WS_take (i := 3) (v := ?vc3) (by simp only [List.getElem?_toArray, List.getElem?_cons_succ, List.getElem?_cons_zero]; rfl) (by decide) (by kernel_rfl) (by kernel_rfl) (by intro _ _ _ h; exact h) (Or.inl ⟨by rfl, ?hyc3⟩) hS0 ?restc3
            case hyc3 =>
              intro wx hx
              obtain ⟨s1, s2⟩ := hx
              go_simp
              try with_reducible rfl
            try simp only [Act.put, List.setIfInBounds_toArray, List.set_cons_zero, List.set_cons_succ]
            refine WS_take (i := 4) (v := ?vc4) (by simp only [List.getElem?_toArray, List.getElem?_cons_succ, List.getElem?_cons_zero]; rfl) (by decide) (by kernel_rfl) (by kernel_rfl) (by intro _ _ _ h; exact h) (Or.inl ⟨by rfl, ?hyc4⟩) hS0 ?restc4
            case hyc4 =>
              intro wx hx
              obtain ⟨s1, s2⟩ := hx
              go_simp
              try with_reducible rfl
            try simp only [Act.put, List.setIfInBounds_toArray, List.set_cons_zero, List.set_cons_succ]
            refine WS_take (i := 5) (v := ?vc5) (by simp only [List.getElem?_toArray, List.getElem?_cons_succ, List.getElem?_cons_zero]; rfl) (by decide) (by kernel_rfl) (by kernel_rfl) (by intro _ _ _ h; exact h) (Or.inl ⟨by rfl, ?hyc5⟩) hS0 ?restc5
            case hyc5 =>
              intro wx hx
              obtain ⟨s1, s2⟩ := hx
              go_simp
              try with_reducible rfl
            try simp only [Act.put, List.setIfInBounds_toArray, List.set_cons_zero, List.set_cons_succ]
            refine WS_take (i := 6) (v := ?vc6) (by simp only [List.getElem?_toArray, List.getElem?_cons_succ, List.getElem?_cons_zero]; rfl) (by decide) (by kernel_rfl) (by kernel_rfl) (by intro _ _ _ h; exact h) (Or.inl ⟨by rfl, ?hyc6⟩) hS0 ?restc6
            case hyc6 =>
              intro wx hx
              obtain ⟨s1, s2⟩ := hx
              go_simp
              try with_reducible rfl
            try simp only [Act.put, List.setIfInBounds_toArray, List.set_cons_zero, List.set_cons_succ]
            refine WS_take (i := 7) (v := ?vc7) (by simp only [List.getElem?_toArray, List.getElem?_cons_succ, List.getElem?_cons_zero]; rfl) (by decide) (by kernel_rfl) (by kernel_rfl) (by intro _ _ _ h; exact h) (Or.inl ⟨by rfl, ?hyc7⟩) hS0 ?restc7
            case hyc7 =>
              intro wx hx
              obtain ⟨s1, s2⟩ := hx
              go_simp
              try with_reducible rfl
            try simp only [Act.put, List.setIfInBounds_toArray, List.set_cons_zero, List.set_cons_succ]
            refine WS_take (i := 8) (v := ?vc8) (by simp only [List.getElem?_toArray, List.getElem?_cons_succ, List.getElem?_cons_zero]; rfl) (by decide) (by kernel_rfl) (by kernel_rfl) (by intro _ _ _ h; exact h) (Or.inl ⟨by rfl, ?hyc8⟩) hS0 ?restc8
            case hyc8 =>
              intro wx hx
              obtain ⟨s1, s2⟩ := hx
              go_simp
              try with_reducible rfl
            try simp only [Act.put, List.setIfInBounds_toArray, List.set_cons_zero, List.set_cons_succ]
            refine WS_one (i := 9) (by simp only [List.getElem?_toArray, List.getElem?_cons_succ, List.getElem?_cons_zero]; rfl) (by decide) (by kernel_rfl) (fun K hK => ?_)
            go_simp
            refine hK _ _ ?_ ?_
            · exact ⟨((HVA.out _).cell (p := ⟨X, 1, none⟩) hXl).trans y1, ((HVA.out _).cell (p := ⟨b, off + k, none⟩) hbr).trans k1⟩
            · refine WS_done (by kernel_rfl) ?_
              simp only [List.drop_succ_cons, List.drop_zero]
              clear hK K
              go_wp2_with (at_builtin; refine wpList_seenG 50 72 Tryz.underlying50 snInfo (by rfl) (.tmp 53) (.tmp 61) (by rfl) w5.heap.size _ ((Rc.seens rl).take j) (n, true, st.tail) (by rfl) wr.heap.size (by rfl) (by rfl) (HO2.out.below (below_of_drewN (a := wr) (B := wr.heap.size) 1)) hgs (by omega) ?_; intro v' w6 h8 h9; have hX6 := (h9.block X hX5l).trans hXr; obtain ⟨A6, n6, c6, rfl⟩ : ∃ A n c, v' = .slice A n c := (by obtain ⟨g4, c4', hv4, _⟩ := h8.shape sf_length (by simp); exact ⟨_, _, _, hv4⟩); obtain ⟨z0, z1, z2, fy0, fy1, fy2⟩ := cells3 hX6; dsimp only)
              go_roundw
              case rel => exact ⟨j + 1, _, by have := HK.out; omega, by have := HK.out; congr 1; omega, cells_setCell hX6 _, by rw [HS.out]; exact h8.heap fun k5 hk5 => setCell_oth w6 X 1 k5 _ (fun e5 => by have h10 := (h8.lt k5 hk5).1; omega), grown_step hgr (below_of_drewN (a := wr) (B := wr.heap.size) 1) h9 _ _⟩
              case measure => have := HK.out; simp [RowKit.intOf]; omega
      · have hjl : (Rc.seens rl).length ≤ j := by rw [seens_len]; omega
        rw [List.take_of_length_le hjl] at hown
        obtain ⟨k, hk⟩ : ∃ k, k = 2 * j := ⟨_, rfl⟩
        have hnl : ¬ k < rl.length := by omega
        have hnli : ¬ (k : Int) < (rl.length : Int) := by omega
        rw [← hk]
        clear hk hlt hjl
        go_wp2_with fail
        go_meet
        exact ⟨rv, hXr, hown, hgr⟩
  case rest =>
    obtain ⟨rv, hXc, hown, hgr⟩ := hcut
    obtain ⟨wd, hwd⟩ : ∃ wd, wd = wc := ⟨_, rfl⟩
    subst hwd
    have hgs := hgr.size
    have HBc := Lib.hid (HQ5.out.grown hgr HQ5.out.size (fun k hk => by injection hk with hk; have := HXE.out; omega))
    have H2 := H0.out wd HBc.out 2 (by omega)
    have hRc := (hgr.block R hR5l (fun e => by injection e with e; omega)).trans hR5
    have HBd := Lib.hid (HB5.out.grown hgr (by have := HB5.out.size; omega) (fun k hk => by injection hk with hk; have := HXE.out; have := HB1.out.size; have := HRE.out; omega))
    obtain ⟨rA, rn, rc, hrv⟩ : ∃ A l c, rv = .slice A l c := by
      obtain ⟨A, c, h, _⟩ := (hown.rowC sf_length).shape
      exact ⟨A, _, c, h⟩
    subst hrv
    have HOW := Lib.hid hown
    have HBS : Hid (w.heap.size ≤ w5.heap.size ∧ w5.heap.size ≤ wd.heap.size) := Lib.hid ⟨HB5.out.size, hgs⟩
    clear hX5 hR5 hgr hown
    go_wp2_with fail
    refine H2.mono ?_
    rintro e w6 ⟨rfl, rfl⟩
    go_wp2_with fail
    refine (HPA.out _).mono ?_
    rintro e w7 ⟨b7, wv, rfl, RW, RN⟩
    have HRN := Lib.hid RN
    clear RN
    obtain ⟨wA, wc7, rfl, _, _, w3⟩ := RW.shape
    have HWV := Lib.hid w3
    have HRW := Lib.hid RW
    have hX7 := (b7.block X (lt_of_block hXc)).trans hXc
    have hR7 := (b7.block R (lt_of_block hRc)).trans hRc
    have HB7 := Lib.hid (below_via HBd.out b7)
    have HOW7 := Lib.hid (HOW.out.heap fun k hk => b7.block k (HOW.out.lt k hk).2)
    clear hXc hRc w3 RW HBd HBc
    obtain ⟨x0, x1, x2, fx0, fx1, fx2⟩ := cells3 hX7
    go_upto_region 13 with fail
    obtain ⟨W8, hW8⟩ : ∃ W8, W8 = w7.setCell ⟨X, 2, none⟩ (.slice wA (parL (Rc.part ps 2)).length wc7) := ⟨_, rfl⟩
    rw [← hW8]
    have hX8 : W8.heap[X]? = some (.cells #[.string (bs (Rc.part ps 0)), .slice rA rn rc, .slice wA (parL (Rc.part ps 2)).length wc7] 52 (0, 0)) := by rw [hW8]; exact cells_setCell hX7 _
    have hR8 := (setCell_oth w7 X 2 R (.slice wA (parL (Rc.part ps 2)).length wc7) (by omega)).trans hR7
    rw [← hW8] at hR8
    have HW8 := Lib.hid hW8
    have HX7 := Lib.hid hX7
    have HR7 := Lib.hid hR7
    clear hW8 hX7 hR7 x0 x1 x2 fx0 fx1 fx2
    obtain ⟨x0, x1, x2, fx0, fx1, fx2⟩ := cells3 hX8
    obtain ⟨r0, _, _, f0, _, _⟩ := cells3 hR8
    have r1 := fun v => (cells3 (cells_setCell (j := 0) hR8 v)).2.1
    have f1 := fun v => (cells3 (cells_setCell (j := 0) hR8 v)).2.2.2.2.1
    have r2 := fun v v' => (cells3 (cells_setCell (j := 1) (cells_setCell (j := 0) hR8 v) v')).2.2.1
    have f2 := fun v v' => (cells3 (cells_setCell (j := 1) (cells_setCell (j := 0) hR8 v) v')).2.2.2.2.2
    go_wp2_with fail
    have hg3 := set3_same (x := .string (bs (Rc.part ps 0))) (y := .slice rA rn rc) (z := .slice wA (parL (Rc.part ps 2)).length wc7) hR8
    obtain ⟨d0, d1, d2, _, _, _⟩ := cells3 hg3
    refine bodyPost_ret (v := .agg #[.string (bs (Rc.part ps 0)), .slice rA rn rc, .slice wA (parL (Rc.part ps 2)).length wc7]) (by
      simp [results, Tryz.f22, go_sem, d0, d1, d2]) rfl ?_
    have hoth : ∀ k, k ≠ X → k ≠ R → (((W8.setCell ⟨R, 0, none⟩ (.string (bs (Rc.part ps 0)))).setCell ⟨R, 1, none⟩ (.slice rA rn rc)).setCell ⟨R, 2, none⟩ (.slice wA (parL (Rc.part ps 2)).length wc7)).heap[k]? = w7.heap[k]? := fun k h1 h2 => by
      rw [set3_oth _ _ _ _ _ _ h2, HW8.out, setCell_oth _ _ _ _ _ h1]
    have hsz : (((W8.setCell ⟨R, 0, none⟩ (.string (bs (Rc.part ps 0)))).setCell ⟨R, 1, none⟩ (.slice rA rn rc)).setCell ⟨R, 2, none⟩ (.slice wA (parL (Rc.part ps 2)).length wc7)).heap.size = w7.heap.size := by rw [HW8.out]; simp [World.setCell]
    refine ⟨(Rc.part ps 0, .slice rA rn rc, .slice wA (parL (Rc.part ps 2)).length wc7), rfl, ?_, ?_, fun b hb => ?_, fun b hb => ?_⟩
    · rw [HONE.out]
      refine ⟨rfl, ?_, ?_⟩
      · refine (HOW7.out.rowC sf_length).blk (by rw [hsz]; exact Nat.le_refl _) (fun b off m c hv hne hb => hoth b ?_ ?_)
        · rintro rfl
          have h5 := (HOW7.out.lt b (by rw [hv]; rfl)).1
          omega
        · rintro rfl
          have h5 := (HOW7.out.lt b (by rw [hv]; rfl)).1
          omega
      · refine HRW.out.blk (by rw [hsz]; exact Nat.le_refl _) (fun b off m c hv hne hb => ?_)
        obtain ⟨b', off', e, _, hc⟩ := HWV.out hne
        subst e
        injection hv with e1 _ _
        injection e1 with e1
        injection e1 with e1 e2
        subst e1
        have h0 : 0 < (parL (Rc.part ps 2)).length := List.length_pos_iff.2 hne
        have h1 := hc 0 h0 1 _ rfl
        simp only [Nat.zero_mul, Nat.add_zero] at h1
        refine hoth _ (fun e => ?_) (fun e => ?_)
        · subst e
          obtain ⟨_, _, _, e⟩ := sl_cell HX7.out h1
          cases e
        · subst e
          obtain ⟨_, _, _, e⟩ := sl_cell HR7.out h1
          cases e
    · have hRE := HRE.out
      rw [HW8.out]
      exact (((HB7.out.setCell (p := ⟨X, 2, none⟩) (by show w.heap.size ≤ X; omega) _).setCell (p := ⟨R, 0, none⟩) (by show w.heap.size ≤ R; omega) _).setCell (p := ⟨R, 1, none⟩) (by show w.heap.size ≤ R; omega) _).setCell (p := ⟨R, 2, none⟩) (by show w.heap.size ≤ R; omega) _
    · have h5 := (HOW7.out.lt b (own_blk hb)).1
      have := HBS.out
      omega
    · have h5 := HRN.out b hb
      have := HBS.out
      omega
end Go.Proofs.YtiogmegdkfnkkaaGreatDoor
