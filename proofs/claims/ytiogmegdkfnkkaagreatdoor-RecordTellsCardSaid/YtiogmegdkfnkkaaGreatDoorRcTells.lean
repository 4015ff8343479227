/- RecordTells. -/
import Derived.Test.YtiogmegdkfnkkaaGreatDoorRcR7
import Derived.Test.YtiogmegdkfnkkaaGreatDoorRcBackP
import Derived.Test.YtiogmegdkfnkkaaGreatDoorRcFx
namespace Go.Proofs.YtiogmegdkfnkkaaGreatDoor
open Go.RowKit Tx

theorem dec_lens (s : Bs) : (decL s).length < 1000000 ∧ ∀ x ∈ decL s, x.2.1.length < 1000000 ∧ x.2.2.length < 1000000 := by
  unfold decL
  match h : Rc.dec s with
  | .ok l =>
    have h1 := (Rc.dec_inv h).1
    obtain ⟨h2, h3⟩ := Rc.rightR_ok h1
    exact ⟨by simp only; omega, fun x hx => by
      obtain ⟨k1, k2, k3, k4⟩ := Rc.mayR_ok (h2 x hx)
      have := (Wr.right_of k4).most
      exact ⟨by omega, by omega⟩⟩
  | .error e => exact ⟨by simp, fun x hx => by simp at hx⟩
theorem encV_shape (l : List Rc.Rec) : ∃ (t : Bs) (n : Nat), encV l = .tuple #[.string (bs t), .int .i64 n] := by
  cases h : Rc.rightR l with
  | true => exact ⟨_, 0, encV_yes h⟩
  | false => exact ⟨[], 5, encV_no h⟩
set_option maxRecDepth 100000 in
set_option maxHeartbeats 8000000 in
theorem tells_any (v : Value) (l : List Rc.Rec) (s : Bs) (w : World) (hr : RowR w w.heap.size v l) (hok : ∀ x ∈ l, RecOk x) (hs : s.length ≤ maxLen) (hg : Gl w) :
    Calls Tryz.prog 3 #[v, .string (bs s)] w fun e w' => e = .returned (.bool true) ∧ Below w.heap.size w w' := by
  have hx1 := xext_minr s 500
  simp only [show ((500 : Nat) : Int) = 500 from rfl] at hx1
  have hz1 := bs_size s
  simp only [maxLen] at hs
  have l1 : (0 : Int) ≤ min ((bs s).size : Int) 500 := by omega
  have l2 : min ((bs s).size : Int) 500 ≤ ((bs s).size : Int) := by omega
  rw [hz1] at hx1 l1 l2
  have hst : (s.take 500).length ≤ 500 := by simp; omega
  have HG := Lib.hid hg
  have hcut := cut_any v l 6 w hr (by decide) hok
  obtain ⟨hc1, hc2⟩ := cutL_ok l 6
  have hoks : ∀ x ∈ cutL l 6, RecOk x ∧ x.2.1.length < 1000000 := fun x hx => ⟨(hc1 x hx).ok, by have := (hc1 x hx).reads.1; omega⟩
  have HOKS := Lib.hid hoks
  clear hr hok hg hc1 hoks
  generalize cutL l 6 = L at *
  go_enter Tryz.func3, Tryz.ntmps3
  go_wp2_with fail
  refine hcut.mono ?_
  rintro e w1 ⟨v1, rfl, R1, b1⟩
  have HB1 := Lib.hid b1
  clear hcut b1
  obtain ⟨t1, n1, he⟩ := encV_shape L
  have HENC := Lib.hid (fun v wx (hb : Below w.heap.size w wx) (hr : RowR wx wx.heap.size v L) => enc_any v L wx hr (by omega) HOKS.out (HG.out.below hb))
  have HRENC := Lib.hid (fun v wx (hr : RowR wx wx.heap.size v L) => renc_any v L wx hr (by omega) HOKS.out)
  have HDEC := Lib.hid (fun wx (hb : Below w.heap.size w wx) => dec_any (s.take 500) wx (by omega) (HG.out.below hb))
  have HRDEC := Lib.hid (fun wx => rdec_any (s.take 500) wx (by omega))
  have HDL := Lib.hid (dec_lens (s.take 500))
  have HREF := Lib.hid (fun v wx (hr : RowR wx wx.heap.size v L) => refs_any v L wx hr (by omega) (fun x hx => (HOKS.out x hx).2))
  have HREFD := Lib.hid (fun v wx (hr : RowR wx wx.heap.size v (decL (s.take 500))) => refs_any v (decL (s.take 500)) wx hr HDL.out.1 (fun x hx => (HDL.out.2 x hx).1))
  have HSAME := Lib.hid (fun v1 v2 wx h1 h2 => same_any (q := true) v1 v2 (decL (s.take 500)) (decL (s.take 500)) (by simp) wx h1 h2 HDL.out.1 HDL.out.1 HDL.out.2 HDL.out.2)
  generalize hq : Rc.rightR L = q at *
  have HRT := Lib.hid (fun v wx (hr : RowR wx wx.heap.size v L) => right_b v L wx hr (by omega) HOKS.out hq)
  have HRRT := Lib.hid (fun v wx (hr : RowR wx wx.heap.size v L) => rright_b v L wx hr (by omega) HOKS.out hq)
  rw [he] at HENC HRENC
  clear he hq
  generalize s.take 500 = t at *
  have hqq : (q == q) = true := by simp
  have htt : ((bs t1).toList == (bs t1).toList) = true := by simp
  have hnn : ((n1 : Int) == (n1 : Int)) = true := by simp
  generalize decE t = d at *
  have hdd : ((d : Int) == (d : Int)) = true := by simp
  go_wp2_with fail
  refine (HENC.out _ w1 HB1.out R1).mono ?_
  rintro e w2 ⟨rfl, b2⟩
  have HB2 := Lib.hid (below_via HB1.out b2)
  have HR2 := Lib.hid (R1.step b2)
  clear R1 b2
  go_wp2_with fail
  refine (HREF.out _ w2 HR2.out).mono ?_
  rintro e w3 ⟨o3, rfl, Q3, b3⟩
  have HB3 := Lib.hid (below_via HB2.out b3)
  have HR3 := Lib.hid (HR2.out.step b3)
  have HQ3 := Lib.hid Q3
  clear Q3 b3
  go_wp2_with fail
  refine (HRENC.out _ w3 HQ3.out).mono ?_
  rintro e w4 ⟨rfl, b4⟩
  have HB4 := Lib.hid (below_via HB3.out b4)
  have HR4 := Lib.hid (HR3.out.step b4)
  clear b4
  go_wp2_with fail
  refine (HDEC.out w4 HB4.out).mono ?_
  rintro e w5 ⟨b5, vx, rfl, X5⟩
  have HB5 := Lib.hid (below_via HB4.out b5)
  have HR5 := Lib.hid (HR4.out.step b5)
  have HX5 := Lib.hid X5
  obtain ⟨xA, xc, rfl, _⟩ := X5.shape
  clear b5 X5
  go_wp2_with fail
  refine (HRDEC.out w5).mono ?_
  rintro e w6 ⟨b6, vy, rfl, Y6⟩
  have HB6 := Lib.hid (below_via HB5.out b6)
  have HR6 := Lib.hid (HR5.out.step b6)
  have HX6 := Lib.hid (HX5.out.step b6)
  have HY6 := Lib.hid Y6
  obtain ⟨yA, yc, rfl, _⟩ := Y6.shape
  clear b6 Y6
  go_wp2_with fail
  refine (HRT.out _ w6 HR6.out).mono ?_
  rintro e w7 ⟨rfl, b7⟩
  have HB7 := Lib.hid (below_via HB6.out b7)
  have HR7 := Lib.hid (HR6.out.step b7)
  have HX7 := Lib.hid (HX6.out.step b7)
  have HY7 := Lib.hid (HY6.out.step b7)
  clear b7
  go_wp2_with fail
  refine (HREF.out _ w7 HR7.out).mono ?_
  rintro e w8 ⟨o8, rfl, Q8, b8⟩
  have HB8 := Lib.hid (below_via HB7.out b8)
  have HX8 := Lib.hid (HX7.out.step b8)
  have HY8 := Lib.hid (HY7.out.step b8)
  have HQ8 := Lib.hid Q8
  clear b8 Q8
  go_wp2_with fail
  refine (HRRT.out _ w8 HQ8.out).mono ?_
  rintro e w9 ⟨rfl, b9⟩
  have HB9 := Lib.hid (below_via HB8.out b9)
  have HX9 := Lib.hid (HX8.out.step b9)
  have HY9 := Lib.hid (HY8.out.step b9)
  clear b9
  go_wp2_with fail
  refine (HREFD.out _ w9 HX9.out).mono ?_
  rintro e w10 ⟨o10, rfl, Q10, b10⟩
  have HB10 := Lib.hid (below_via HB9.out b10)
  have HY10 := Lib.hid (HY9.out.step b10)
  have HQ10 := Lib.hid Q10
  clear b10 Q10
  go_wp2_with fail
  refine (HSAME.out _ _ w10 HQ10.out HY10.out).mono ?_
  rintro e w11 ⟨rfl, nq, h11⟩
  have HB11 := Lib.hid (below_via HB10.out (by rw [h11]; exact below_of_drewN (a := w10) (B := w10.heap.size) nq : Below w10.heap.size w10 w11))
  clear h11
  go_wp2_with fail
  refine (fixed_any w11 (HG.out.below HB11.out)).mono ?_
  rintro e w12 ⟨rfl, b12⟩
  go_wp2_with fail
  go_ret
  exact ⟨rfl, below_via HB11.out b12⟩
end Go.Proofs.YtiogmegdkfnkkaaGreatDoor
