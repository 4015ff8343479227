/- RecordBack. -/
import Derived.Test.YtiogmegdkfnkkaaDoorQ15
import Derived.Test.YtiogmegdkfnkkaaDoorRcFx
namespace Go.Proofs.YtiogmegdkfnkkaaDoor
open Go.RowKit Tx

theorem dec_back {l : List Rc.Rec} (h : Rc.rightR l = true) : decL (Rc.bytes l) = l ∧ decE (Rc.bytes l) = 0 := by
  unfold decL decE
  rw [Rc.dec_bytes h]
  exact ⟨rfl, rfl⟩
theorem dec_cases (s : Bs) : (decE s = 5 ∧ decL s = []) ∨ (decE s = 0 ∧ Rc.rightR (decL s) = true ∧ Rc.bytes (decL s) = s) := by
  unfold decL decE
  match h : Rc.dec s with
  | .ok l => exact .inr ⟨rfl, (Rc.dec_inv h).1, (Rc.dec_inv h).2⟩
  | .error e => exact .inl ⟨rfl, rfl⟩
set_option maxRecDepth 100000 in
set_option maxHeartbeats 8000000 in
theorem back_any (v : Value) (l : List Rc.Rec) (s : Bs) (w : World) (hr : RowR w w.heap.size v l) (hok : ∀ x ∈ l, RecOk x) (hs : s.length ≤ maxLen) (hg : Gl w) :
    Calls Tryd.prog 4 #[v, .string (bs s)] w fun e w' => e = .returned (.bool true) ∧ Below w.heap.size w w' := by
  have hx1 := xext_minr s 500
  simp only [show ((500 : Nat) : Int) = 500 from rfl] at hx1
  have hz1 := bs_size s
  simp only [maxLen] at hs
  have l1 : (0 : Int) ≤ min ((bs s).size : Int) 500 := by omega
  have l2 : min ((bs s).size : Int) 500 ≤ ((bs s).size : Int) := by omega
  rw [hz1] at hx1 l1 l2
  have hst : (s.take 500).length ≤ 500 := by simp; omega
  have HG := Lib.hid hg
  have hcut := cut_any v l 6 w hr (by decide) hok
  obtain ⟨hc1, hc2⟩ := cutL_ok l 6
  have hoks : ∀ x ∈ cutL l 6, RecOk x ∧ x.2.1.length < 1000000 := fun x hx => ⟨(hc1 x hx).ok, by have := (hc1 x hx).reads.1; omega⟩
  have hsl : ∀ x ∈ cutL l 6, x.2.1.length < 1000000 ∧ x.2.2.length < 1000000 := fun x hx => ⟨by have := (hc1 x hx).reads.1; omega, by have := (hc1 x hx).writes.1; omega⟩
  have hbl := bytes_cut (cutL l 6) hc1
  have HOKS := Lib.hid hoks
  have HSL := Lib.hid hsl
  clear hr hok hg hc1 hoks hsl
  generalize cutL l 6 = L at *
  go_enter Tryd.func4, Tryd.ntmps4
  go_wp2_with fail
  refine hcut.mono ?_
  rintro e w1 ⟨v1, rfl, R1, b1⟩
  have HB1 := Lib.hid b1
  clear hcut b1
  go_wp2_with fail
  refine (enc_any _ L w1 R1 (by omega) HOKS.out (HG.out.below HB1.out)).mono ?_
  rintro e w2 ⟨rfl, b2⟩
  have HB2 := Lib.hid (below_via HB1.out b2)
  have R2 := R1.step b2
  clear R1 b2
  have HEND := Lib.hid (fun wx (hb : Below w.heap.size w wx) => dec_any (s.take 500) wx (by omega) (HG.out.below hb))
  generalize s.take 500 = t at *
  cases hrt : Rc.rightR L with
  | true =>
    have HRT := Lib.hid hrt
    have hdb := dec_back hrt
    rw [encV_yes hrt]
    have HRC := Lib.hid (right_b v1 L w2 R2 (by omega) HOKS.out hrt)
    clear hrt
    have hemp : ((bs (Rc.bytes L)).toList == (bs (Rc.bytes L)).toList) = true := by simp
    go_wp2_with fail
    refine HRC.out.mono ?_
    rintro e w3 ⟨rfl, b3⟩
    have HB3 := Lib.hid (below_via HB2.out b3)
    have R3 := R2.step b3
    clear R2 b3
    go_wp2_with fail
    refine (dec_any (Rc.bytes L) w3 (by omega) (HG.out.below HB3.out)).mono ?_
    rintro e w4 ⟨b4, vk, rfl, K4⟩
    rw [hdb.2]
    rw [hdb.1] at K4
    have HB4 := Lib.hid (below_via HB3.out b4)
    have R4 := R3.step b4
    clear R3 b4 hdb
    go_wp2_with fail
    refine (refs_any vk L w4 K4 (by omega) (fun x hx => (HSL.out x hx).1)).mono ?_
    rintro e w5 ⟨v5, rfl, Q5, b5⟩
    have HB5 := Lib.hid (below_via HB4.out b5)
    have R5 := R4.step b5
    clear R4 K4 b5
    go_wp2_with fail
    refine (refs_any v1 L w5 R5 (by omega) (fun x hx => (HSL.out x hx).1)).mono ?_
    rintro e w6 ⟨v6, rfl, S6, b6⟩
    have HB6 := Lib.hid (below_via HB5.out b6)
    have Q6 := Q5.step b6
    clear R5 Q5 b6
    go_wp2_with fail
    refine (same_any (q := true) v5 v6 L L (by simp) w6 Q6 S6 (by omega) (by omega) HSL.out HSL.out).mono ?_
    rintro e w7 ⟨rfl, nq, hw7⟩
    have HB7 := Lib.hid (below_via HB6.out (by rw [hw7]; exact below_of_drewN (a := w6) (B := w6.heap.size) nq : Below w6.heap.size w6 w7))
    clear Q6 S6 hw7
    go_wp2_with fail
    refine (HEND.out _ HB7.out).mono ?_
    rintro e y1 ⟨c1, vx, rfl, X1⟩
    have HC1 := Lib.hid (below_via HB7.out c1)
    clear c1
    rcases dec_cases t with ⟨d1, d2⟩ | ⟨d1, d2, d3⟩
    · rw [d1]
      rw [d2] at X1
      obtain ⟨xA, xc, rfl, _⟩ := X1.shape
      clear X1 d1 d2
      go_wp2_with fail
      refine (fixed_any y1 (HG.out.below HC1.out)).mono ?_
      rintro e y2 ⟨rfl, c2⟩
      go_wp2_with fail
      go_ret
      exact ⟨rfl, below_via HC1.out c2⟩
    · rw [d1]
      have hl12 := (Rc.rightR_ok d2).2
      have hok2 : ∀ x ∈ decL t, RecOk x ∧ x.2.1.length < 1000000 := fun x hx => may_recok ((Rc.rightR_ok d2).1 x hx)
      have hbe : ((bs (Rc.bytes (decL t))).toList == (bs t).toList) = true := by rw [d3]; simp
      obtain ⟨xA, xc, rfl, _⟩ := X1.shape
      go_wp2_with fail
      refine (enc_any _ (decL t) y1 X1 (by omega) hok2 (HG.out.below HC1.out)).mono ?_
      rintro e y2 ⟨rfl, c2⟩
      rw [encV_yes d2]
      have HC2 := Lib.hid (below_via HC1.out c2)
      have X2 := X1.step c2
      have HR2 := Lib.hid (right_b _ (decL t) y2 X2 (by omega) hok2 d2)
      generalize Rc.bytes (decL t) = bt at *
      clear d1 d2 d3 X1 X2 c2 hok2
      go_wp2_with fail
      refine HR2.out.mono ?_
      rintro e y3 ⟨rfl, c3⟩
      have HC3 := Lib.hid (below_via HC2.out c3)
      go_wp2_with fail
      refine (fixed_any y3 (HG.out.below HC3.out)).mono ?_
      rintro e y4 ⟨rfl, c4⟩
      go_wp2_with fail
      go_ret
      exact ⟨rfl, below_via HC3.out c4⟩
  | false =>
    rw [encV_no hrt]
    have HRC := Lib.hid (right_b v1 L w2 R2 (by omega) HOKS.out hrt)
    clear hrt
    go_wp2_with fail
    refine HRC.out.mono ?_
    rintro e w3 ⟨rfl, b3⟩
    have HB3 := Lib.hid (below_via HB2.out b3)
    clear R2 b3
    go_wp2_with fail
    refine (HEND.out _ HB3.out).mono ?_
    rintro e y1 ⟨c1, vx, rfl, X1⟩
    have HC1 := Lib.hid (below_via HB3.out c1)
    clear c1
    rcases dec_cases t with ⟨d1, d2⟩ | ⟨d1, d2, d3⟩
    · rw [d1]
      rw [d2] at X1
      obtain ⟨xA, xc, rfl, _⟩ := X1.shape
      clear X1 d1 d2
      go_wp2_with fail
      refine (fixed_any y1 (HG.out.below HC1.out)).mono ?_
      rintro e y2 ⟨rfl, c2⟩
      go_wp2_with fail
      go_ret
      exact ⟨rfl, below_via HC1.out c2⟩
    · rw [d1]
      have hl12 := (Rc.rightR_ok d2).2
      have hok2 : ∀ x ∈ decL t, RecOk x ∧ x.2.1.length < 1000000 := fun x hx => may_recok ((Rc.rightR_ok d2).1 x hx)
      have hbe : ((bs (Rc.bytes (decL t))).toList == (bs t).toList) = true := by rw [d3]; simp
      obtain ⟨xA, xc, rfl, _⟩ := X1.shape
      go_wp2_with fail
      refine (enc_any _ (decL t) y1 X1 (by omega) hok2 (HG.out.below HC1.out)).mono ?_
      rintro e y2 ⟨rfl, c2⟩
      rw [encV_yes d2]
      have HC2 := Lib.hid (below_via HC1.out c2)
      have X2 := X1.step c2
      have HR2 := Lib.hid (right_b _ (decL t) y2 X2 (by omega) hok2 d2)
      generalize Rc.bytes (decL t) = bt at *
      clear d1 d2 d3 X1 X2 c2 hok2
      go_wp2_with fail
      refine HR2.out.mono ?_
      rintro e y3 ⟨rfl, c3⟩
      have HC3 := Lib.hid (below_via HC2.out c3)
      go_wp2_with fail
      refine (fixed_any y3 (HG.out.below HC3.out)).mono ?_
      rintro e y4 ⟨rfl, c4⟩
      go_wp2_with fail
      go_ret
      exact ⟨rfl, below_via HC3.out c4⟩
end Go.Proofs.YtiogmegdkfnkkaaDoor
