/- The reference's Decode. -/
import Derived.Test.YtiogmegdkfnkkaaGreatDoorRcR6
namespace Go.Proofs.YtiogmegdkfnkkaaGreatDoor
open Go.RowKit Tx

theorem seens_ok : ∀ l : List Bs, (∀ x ∈ l, x.length ≤ 1000000) → ∀ r ∈ Rc.seens l, SOk r
  | [], _ => by simp [Rc.seens]
  | [a], h => by
    intro r hr
    have h1 := h a (by simp)
    simp only [Rc.seens, List.mem_singleton] at hr
    subst hr
    exact ⟨by simp only [maxLen]; omega, by simp⟩
  | a :: b :: l, h => by
    intro r hr
    simp only [Rc.seens, List.mem_cons] at hr
    rcases hr with rfl | hr
    · have h1 := h a (by simp)
      have h2 := h b (by simp)
      split
      · exact ⟨by simp only [maxLen]; omega, by simp⟩
      · exact ⟨by simp only [maxLen]; omega, by simp only [maxLen, List.length_drop]; omega⟩
    · exact seens_ok l (fun x hx => h x (by simp [hx])) r hr
theorem one_ok (x : Bs) (hx : x.length ≤ 1000000) : OkX (Rc.one x) := by
  have e : Rc.one x = (Rc.part (allL x) 0, Rc.seens (allL (Rc.part (allL x) 1)), parL (Rc.part (allL x) 2)) := rfl
  rw [e]
  have h0 := part_le x 0
  have h1 := part_le x 1
  obtain ⟨a1, a2⟩ := allL_le2 (Rc.part (allL x) 1)
  refine ⟨⟨by simp only [maxLen]; omega, seens_ok _ (fun y hy => by have := a2 y hy; omega), parL_ok _⟩, ?_⟩
  show (Rc.seens _).length < _
  rw [seens_len]
  omega
def recsD (s : Bs) : List Rc.Rec := ((allL s).drop 1).map Rc.one
theorem dec_noD {s : Bs} (h : ¬ (Rc.rightR (recsD s) = true ∧ Rc.bytes (recsD s) = s)) : decL s = [] ∧ decE s = 5 := by
  have : Rc.dec s = .error 5 := if_neg h
  unfold decL decE
  rw [this]
  exact ⟨rfl, rfl⟩
theorem dec_yesD {s : Bs} (h : Rc.rightR (recsD s) = true ∧ Rc.bytes (recsD s) = s) : decL s = recsD s ∧ decE s = 0 := by
  have : Rc.dec s = .ok (recsD s) := if_pos h
  unfold decL decE
  rw [this]
  exact ⟨rfl, rfl⟩
set_option maxRecDepth 100000 in
set_option maxHeartbeats 8000000 in
theorem rdec_any (s : Bs) (w : World) (hs : s.length ≤ 1000000) :
    Calls Tryz.prog 9 #[.string (bs s)] w (DecPost s w) := by
  have HA := Lib.hid (rAll_any s w hs)
  have DN := Lib.hid (@dec_noD s)
  have DY := Lib.hid (@dec_yesD s)
  obtain ⟨hall, hml⟩ := allL_le2 s
  have HML := Lib.hid hml
  have HD : Hid (recsD s = ((allL s).drop 1).map Rc.one) := Lib.hid rfl
  clear hml
  go_enter Tryz.func9, Tryz.ntmps9
  go_wp2_with fail
  refine HA.out.mono ?_
  rintro e w1 ⟨b1, v, rfl, hrow⟩
  generalize allE s = es at *
  generalize allL s = ps at *
  generalize recsD s = D at *
  have hDl : D.length = ps.length - 1 := by rw [HD.out]; simp
  have HDK : Hid (∀ (k : Nat) (h : k + 1 < ps.length), D.take (k + 1) = D.take k ++ [Rc.one ps[k + 1]]) := Lib.hid fun k h => by
    rw [List.take_succ_eq_append_getElem (by omega)]
    congr 2
    simp [HD.out]
  have HOKX : Hid (∀ x ∈ D, OkX x) := Lib.hid fun x hx => by
    rw [HD.out] at hx
    obtain ⟨y, hy, rfl⟩ := List.mem_map.1 hx
    have := HML.out y (List.mem_of_mem_drop hy)
    exact one_ok y (by omega)
  obtain ⟨A, cap, rfl, c1, c2, c3⟩ := hrow.shape
  have HC := Lib.hid c3
  have HB1 := Lib.hid b1
  have hmade := OwnR.made 52 w1.heap.size w1 (Nat.le_refl _)
  clear c3 hrow HA b1 HD
  go_wp2_with fail
  go_loopw [6, 7] (fun o i wr => ∃ k : Nat, k ≤ D.length ∧ i = .int .i64 (k + 1 : Nat) ∧ OwnR 52 w1.heap.size wr o (D.take k) ∧ Below w1.heap.size w1 wr) (fun _ i _ => ps.length + 1 - (RowKit.intOf i).toNat)
  case atStart => exact ⟨0, Nat.zero_le _, rfl, hmade, (Below.refl _ _).alloc (Nat.le_refl _) _⟩
  case round =>
    clear hmade
    obtain ⟨k, hk, rfl, hown, hbel⟩ := hrel
    have hle := hbel.size
    have hol : (D.take k).length ≤ k := by simp; omega
    by_cases hlt : k + 1 < ps.length
    · obtain ⟨b, off, rfl, hbl, hc⟩ := HC.out (by rintro rfl; simp at hlt)
      have k1 := (hbel.cell (p := ⟨b, off + (k + 1), none⟩) hbl).trans (hc (k + 1) hlt)
      have HT := Lib.hid (HDK.out k hlt)
      have hxl := HML.out _ (List.getElem_mem hlt)
      generalize ps[k + 1] = x at *
      have HO := Lib.hid hown
      have HB := Lib.hid hbel
      have hcon := rone_any x wr (by omega)
      obtain ⟨m, hm⟩ : ∃ m, m = k + 1 := ⟨_, rfl⟩
      rw [← hm] at k1 hlt ⊢
      have HM := Lib.hid hm
      have hkb : k < 1000000 := by omega
      clear hc hown hbel hm
      have i0 : (0 : Int) ≤ (m : Int) := by omega
      have i1 : (m : Int) < (ps.length : Int) := by omega
      have hw : IntKind.i64.wrap ((m : Int) + 1) = ((m + 1 : Nat) : Int) := by rw [IntWalk.i64_in _ (by omega)]; omega
      go_wp2_with fail
      refine hcon.mono ?_
      rintro e w2 ⟨⟨x0, r1, r2⟩, rfl, R2, b2, n1, n2⟩
      obtain ⟨B1, p1, B2, p2, hr3⟩ := R2.rows
      injection hr3 with e1 e2
      injection e2 with e2 e3
      subst e1 e2 e3
      have HAW := Lib.hid (Away.of HO.out (r := ((Rc.one x).1, .slice B1 (Rc.one x).2.1.length p1, .slice B2 (Rc.one x).2.2.length p2)) (x := Rc.one x) (fun b hb _ => .inr (n1 b hb)) (fun b hb _ => .inr (n2 b hb)))
      have HR2 := Lib.hid R2
      have HO2 := Lib.hid (HO.out.below b2)
      have hle2 := b2.size
      clear n1 n2 R2 HC
      go_wp2_with (at_builtin; refine wpList_recE 28 52 Tryz.underlying28 rrInfo (by rfl) (.tmp 22) (.tmp 28) (by rfl) w1.heap.size _ (D.take k) ((Rc.one x).1, .slice B1 (Rc.one x).2.1.length p1, .slice B2 (Rc.one x).2.2.length p2) (Rc.one x) (by rfl) (by rfl) HO2.out HR2.out HAW.out (Nat.le_trans hle hle2) (by omega) ?_; intro v' w4 h8 h9)
      go_roundw
      case rel => exact ⟨k + 1, by have := HM.out; omega, by have := HM.out; congr 1; omega, by rw [HT.out]; exact h8, (HB.out.trans (b2.mono hle)).trans h9⟩
      case measure => have := HM.out; simp [RowKit.intOf]; omega
    · have HE : Hid (D.take k = D) := Lib.hid (List.take_of_length_le (by omega))
      rw [HE.out] at hown
      obtain ⟨m, hm⟩ : ∃ m, m = k + 1 := ⟨_, rfl⟩
      rw [← hm] at hlt ⊢
      have i1 : ¬ (m : Int) < (ps.length : Int) := by omega
      clear hm
      have hBw := Lib.hid (below_via HB1.out hbel)
      obtain ⟨oA, oc, rfl, _⟩ := hown.row.shape
      have hcon := renc_any _ D wr hown.row (by omega) HOKX.out
      clear hDl
      have HO := Lib.hid hown.row
      clear hown hbel HOKX HDK HML
      cases hrt : Rc.rightR D with
      | false =>
        rw [encV_no hrt] at hcon
        obtain ⟨d1, d2⟩ := DN.out (by rintro ⟨h, _⟩; rw [hrt] at h; cases h)
        clear hrt
        go_wp2_with fail
        refine hcon.mono ?_
        rintro e w3 ⟨rfl, hb3⟩
        go_wp2_with fail
        go_ret2
        exact ⟨below_via hBw.out hb3, .slice none 0 0, by rw [d2]; rfl, by rw [d1]; exact RowR.nil _ _⟩
      | true =>
        rw [encV_yes hrt] at hcon
        by_cases hbs : Rc.bytes D = s
        · obtain ⟨d1, d2⟩ := DY.out ⟨hrt, hbs⟩
          have hbe : ((bs (Rc.bytes D)).toList == (bs s).toList) = true := by rw [hbs]; simp
          clear hrt hbs DN DY
          generalize Rc.bytes D = bt at *
          go_wp2_with fail
          refine hcon.mono ?_
          rintro e w3 ⟨rfl, hb3⟩
          go_wp2_with fail
          go_ret2
          exact ⟨below_via hBw.out hb3, _, by rw [d2]; rfl, by rw [d1]; exact HO.out.step hb3⟩
        · obtain ⟨d1, d2⟩ := DN.out (by rintro ⟨_, h⟩; exact hbs h)
          have hbe : ((bs (Rc.bytes D)).toList == (bs s).toList) = false := by rw [toListB, toListB]; exact beq_eq_false_iff_ne.2 hbs
          clear hrt hbs DN DY
          generalize Rc.bytes D = bt at *
          go_wp2_with fail
          refine hcon.mono ?_
          rintro e w3 ⟨rfl, hb3⟩
          go_wp2_with fail
          go_ret2
          exact ⟨below_via hBw.out hb3, .slice none 0 0, by rw [d2]; rfl, by rw [d1]; exact RowR.nil _ _⟩
end Go.Proofs.YtiogmegdkfnkkaaGreatDoor
