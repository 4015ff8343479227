/- The walks of stetlaw03's WireMost, WireMaps, WireTells. -/
import Derived.Test.YtmgfbmkfgbildaaDoorWrFx
import Derived.Test.YtmgfbmkfgbildaaDoorWrS
import Derived.Test.YtmgfbmkfgbildaaDoorWrG
import Derived.Test.YtmgfbmkfgbildaaDoorExt
import Derived.Test.YtmgfbmkfgbildaaDoorWrP2
namespace Go.Proofs.YtmgfbmkfgbildaaDoor
open Go.RowKit Tx

theorem allL_le (X : Bs) : 3 * (allL X).length ≤ X.length := by
  unfold allL
  match h : Wr.all X with
  | .error y => simp
  | .ok L =>
    obtain ⟨h1, _⟩ := Wr.all_inv X.length X L (Nat.le_refl _) h
    have := puts_len L
    rw [← h1] at this
    exact this
theorem parL_le (X : Bs) : (parL X).length ≤ 32 := by
  unfold parL
  match h : Wr.parse X with
  | .error y => simp
  | .ok L => exact (Wr.right_of (Wr.files_parse X L h).2).most

set_option maxRecDepth 100000 in
set_option maxHeartbeats 4000000 in
theorem wireTells_any (a0 : ByteArray) (at_ most : Int) (w : World) (hg : Gl w) (w0 : a0.size ≤ maxLen) (ha : I64 at_) (ht : I64 most) :
    Calls Tryd.prog 3 #[.string a0, .int .i64 at_, .int .i64 most] w fun e w' => e = .returned (.bool true) ∧ Below w.heap.size w w' := by
  obtain ⟨l, rfl⟩ : ∃ l, a0 = bs l := ⟨_, (bs_of a0).symm⟩
  have hx := xext_minr l 400
  have hs := bs_size l
  simp only [maxLen] at w0
  have i1 : (0 : Int) ≤ min ((bs l).size : Int) 400 := by omega
  have i2 : min ((bs l).size : Int) 400 ≤ ((bs l).size : Int) := by omega
  have hX : (l.take 400).length ≤ 400 := List.length_take_le _ _
  clear hs
  simp only [show ((400 : Nat) : Int) = 400 from rfl] at hx
  generalize l.take 400 = X at *
  have HG := Lib.hid hg
  have H1 := Lib.hid (fun w hg => wGet_any X at_ most w (by omega) ha ht hg)
  have H2 := Lib.hid (fun w => rGet_any X at_ most w (by omega) ha ht)
  generalize getR X at_ most = R at *
  clear hg ha ht
  go_enter Tryd.func3, Tryd.ntmps3
  go_wp2_with fail
  refine (H1.out w HG.out.et).mono ?_
  rintro e w1 ⟨rfl, hb⟩
  have HB := Lib.hid hb
  replace HG := Lib.hid (HG.out.below hb)
  clear hb
  go_wp2_with fail
  refine (H2.out w1).mono ?_
  rintro e w2 ⟨rfl, rfl⟩
  go_wp2_with fail
  refine (all_any X w1 (by omega) HG.out.et).mono ?_
  rintro e w2 ⟨hb, v1, rfl, r1⟩
  replace HB := Lib.hid (below_via HB.out hb)
  replace HG := Lib.hid (HG.out.below hb)
  clear hb
  obtain ⟨A1, c1, rfl, _⟩ := r1.shape
  have R1 := Lib.hid r1
  clear r1
  go_wp2_with fail
  refine (rAll_any X w2 (by omega)).mono ?_
  rintro e w3 ⟨hb, v2, rfl, r2⟩
  replace HB := Lib.hid (below_via HB.out hb)
  replace HG := Lib.hid (HG.out.below hb)
  replace R1 := Lib.hid (R1.out.step hb)
  clear hb
  obtain ⟨A2, c2, rfl, _⟩ := r2.shape
  have R2 := Lib.hid r2
  clear r2
  go_wp2_with fail
  refine (wParse_any X w3 (by omega) HG.out).mono ?_
  rintro e w4 ⟨hb, v3, rfl, r3⟩
  replace HB := Lib.hid (below_via HB.out hb)
  replace HG := Lib.hid (HG.out.below hb)
  replace R1 := Lib.hid (R1.out.step hb)
  replace R2 := Lib.hid (R2.out.step hb)
  clear hb
  obtain ⟨A3, c3, rfl, _⟩ := r3.shape
  have R3 := Lib.hid r3
  clear r3
  go_wp2_with fail
  refine (rParse_any X w4 (by omega)).mono ?_
  rintro e w5 ⟨hb, v4, rfl, r4⟩
  replace HB := Lib.hid (below_via HB.out hb)
  replace HG := Lib.hid (HG.out.below hb)
  replace R1 := Lib.hid (R1.out.step hb)
  replace R2 := Lib.hid (R2.out.step hb)
  replace R3 := Lib.hid (R3.out.step hb)
  clear hb
  obtain ⟨A4, c4, rfl, _⟩ := r4.shape
  have R4 := Lib.hid r4
  clear r4
  go_wp2_with fail
  refine (wPut_any X w5 (by omega) HG.out).mono ?_
  rintro e w6 ⟨rfl, hb⟩
  replace HB := Lib.hid (below_via HB.out hb)
  replace HG := Lib.hid (HG.out.below hb)
  replace R1 := Lib.hid (R1.out.step hb)
  replace R2 := Lib.hid (R2.out.step hb)
  replace R3 := Lib.hid (R3.out.step hb)
  replace R4 := Lib.hid (R4.out.step hb)
  clear hb
  go_wp2_with fail
  refine (rPut_any X w6 (by omega)).mono ?_
  rintro e w7 ⟨rfl, hb⟩
  replace HB := Lib.hid (below_via HB.out hb)
  replace HG := Lib.hid (HG.out.below hb)
  replace R1 := Lib.hid (R1.out.step hb)
  replace R2 := Lib.hid (R2.out.step hb)
  replace R3 := Lib.hid (R3.out.step hb)
  replace R4 := Lib.hid (R4.out.step hb)
  clear hb
  have hal : (allL X).length < 1000000 := by have := allL_le X; omega
  have hpl : (parL X).length < 1000000 := by have := parL_le X; omega
  go_wp2_with fail
  refine (words2_any _ _ (allL X) (allL X) _ R1.out R2.out hal hal).mono ?_
  rintro e w8 ⟨he, n, rfl⟩
  rw [decide_eq_true rfl] at he
  subst he
  have hd := below_of_drewN (B := w7.heap.size) (a := w7) n
  replace HB := Lib.hid (below_via HB.out hd)
  replace HG := Lib.hid (HG.out.below hd)
  replace R3 := Lib.hid (R3.out.step hd)
  replace R4 := Lib.hid (R4.out.step hd)
  clear hd R1 R2
  generalize w7.drewN n = w8 at *
  go_wp2_with fail
  refine (same_any _ _ (parL X) (parL X) _ R3.out R4.out hpl hpl).mono ?_
  rintro e w9 ⟨he, m, rfl⟩
  rw [decide_eq_true rfl] at he
  subst he
  have hd := below_of_drewN (B := w8.heap.size) (a := w8) m
  replace HB := Lib.hid (below_via HB.out hd)
  replace HG := Lib.hid (HG.out.below hd)
  clear hd R3 R4
  generalize w8.drewN m = w9 at *
  go_wp2_with fail
  refine (fixed_any _ HG.out).mono ?_
  rintro e w10 ⟨rfl, hb⟩
  go_wp2_with fail
  go_ret
  exact ⟨rfl, below_via HB.out hb⟩

set_option maxRecDepth 100000 in
set_option maxHeartbeats 4000000 in
theorem wireMost_any (a0 : ByteArray) (most : Int) (w : World) (hg : Gl w) (w0 : a0.size ≤ maxLen) (ht : I64 most) :
    Calls Tryd.prog 8 #[.string a0, .int .i64 most] w fun e w' => e = .returned (.bool true) ∧ Below w.heap.size w w' := by
  obtain ⟨l, rfl⟩ : ∃ l, a0 = bs l := ⟨_, (bs_of a0).symm⟩
  have hx := xext_minr l 200
  have hs := bs_size l
  simp only [maxLen] at w0
  have i1 : (0 : Int) ≤ min ((bs l).size : Int) 200 := by omega
  have i2 : min ((bs l).size : Int) 200 ≤ ((bs l).size : Int) := by omega
  have hX : (l.take 200).length ≤ 200 := List.length_take_le _ _
  clear hs
  simp only [show ((200 : Nat) : Int) = 200 from rfl] at hx
  generalize l.take 200 = X at *
  have HG := Lib.hid hg
  have hXs := bs_size X
  have hb0 : (bs ([] : Bs)).toList = [] := toListB []
  have hg1 : getR (Wr.put X) 0 most = if most.toNat < X.length then .error 3 else .ok (X, (Wr.put X).length) := by
    have h0 := getR_at (s := Wr.put X) (p := 0) (top := most) (Nat.zero_le _)
    simp only [List.drop_zero] at h0
    have e : Wr.put X = Wr.put X ++ [] := by simp
    have h1 : getR (Wr.put X) 0 most = match Wr.get1 (Wr.put X) most.toNat with | .error e => .error e | .ok (x, r) => .ok (x, (Wr.put X).length - r.length) := h0
    rw [h1]
    by_cases h : most.toNat < X.length
    · have h2 := Wr.get1_most X [] most.toNat h (by omega)
      rw [← e] at h2
      rw [h2, if_pos h]
    · have h2 := Wr.get1_put X [] most.toNat (by omega) (by omega)
      rw [← e] at h2
      rw [h2, if_neg h]
      rfl
  have hpl : (Wr.put X).length ≤ 1000 := by
    have := dig_len X.length (by omega)
    simp [Wr.put]
    omega
  have H1 := Lib.hid (fun w hg => wGet_any (Wr.put X) 0 most w (by omega) (by decide) ht hg)
  have H2 := Lib.hid (fun w hg => wPut_any X w (by omega) hg)
  have hps := bs_size (Wr.put X)
  generalize hP : Wr.put X = P at *
  have HP := Lib.hid hP
  clear hP hg ht
  by_cases h : most.toNat < X.length
  · rw [if_pos h] at hg1
    rw [hg1] at H1
    clear hg1
    by_cases h0 : 0 < most
    · have j1 : most < (X.length : Int) := by omega
      clear h
      go_enter Tryd.func8, Tryd.ntmps8
      go_wp2_with fail
      refine (H2.out w HG.out).mono ?_
      rintro e w1 ⟨rfl, hb⟩
      have HB := Lib.hid hb
      replace HG := Lib.hid (HG.out.below hb)
      clear hb
      go_wp2_with fail
      refine (H1.out w1 HG.out.et).mono ?_
      rintro e w2 ⟨rfl, hb⟩
      unfold gX gQ gE
      replace HB := Lib.hid (below_via HB.out hb)
      replace HG := Lib.hid (HG.out.below hb)
      clear hb
      go_wp2_with fail
      refine (fixed_any _ HG.out).mono ?_
      rintro e w3 ⟨rfl, hb⟩
      go_wp2_with fail
      go_ret
      exact ⟨rfl, below_via HB.out hb⟩
    · have j1 : most ≤ 0 := by omega
      have j2 : (0 : Int) < (X.length : Int) := by omega
      have j3 : 0 < X.length := by omega
      clear h
      go_enter Tryd.func8, Tryd.ntmps8
      go_wp2_with fail
      refine (H2.out w HG.out).mono ?_
      rintro e w1 ⟨rfl, hb⟩
      have HB := Lib.hid hb
      replace HG := Lib.hid (HG.out.below hb)
      clear hb
      go_wp2_with fail
      refine (H1.out w1 HG.out.et).mono ?_
      rintro e w2 ⟨rfl, hb⟩
      unfold gX gQ gE
      replace HB := Lib.hid (below_via HB.out hb)
      replace HG := Lib.hid (HG.out.below hb)
      clear hb
      go_wp2_with fail
      refine (fixed_any _ HG.out).mono ?_
      rintro e w3 ⟨rfl, hb⟩
      go_wp2_with fail
      go_ret
      exact ⟨rfl, below_via HB.out hb⟩
  · rw [if_neg h] at hg1
    rw [hg1] at H1
    clear hg1
    have j1 : (X.length : Int) ≤ 0 ∨ (X.length : Int) ≤ most := by omega
    have j0 : 0 < most ∨ most ≤ 0 := by omega
    clear h
    rcases j0 with j0 | j0
    · have j2 : (X.length : Int) ≤ most := by omega
      clear j1
      go_enter Tryd.func8, Tryd.ntmps8
      go_wp2_with fail
      refine (H2.out w HG.out).mono ?_
      rintro e w1 ⟨rfl, hb⟩
      have HB := Lib.hid hb
      replace HG := Lib.hid (HG.out.below hb)
      clear hb
      go_wp2_with fail
      refine (H1.out w1 HG.out.et).mono ?_
      rintro e w2 ⟨rfl, hb⟩
      unfold gX gQ gE
      replace HB := Lib.hid (below_via HB.out hb)
      replace HG := Lib.hid (HG.out.below hb)
      clear hb
      go_wp2_with fail
      refine (H2.out w2 HG.out).mono ?_
      rintro e w3 ⟨rfl, hb⟩
      replace HB := Lib.hid (below_via HB.out hb)
      replace HG := Lib.hid (HG.out.below hb)
      clear hb
      go_wp2_with fail
      refine (fixed_any _ HG.out).mono ?_
      rintro e w4 ⟨rfl, hb⟩
      go_wp2_with fail
      go_ret
      exact ⟨rfl, below_via HB.out hb⟩
    · have j2 : (X.length : Int) ≤ 0 := by omega
      clear j1
      go_enter Tryd.func8, Tryd.ntmps8
      go_wp2_with fail
      refine (H2.out w HG.out).mono ?_
      rintro e w1 ⟨rfl, hb⟩
      have HB := Lib.hid hb
      replace HG := Lib.hid (HG.out.below hb)
      clear hb
      go_wp2_with fail
      refine (H1.out w1 HG.out.et).mono ?_
      rintro e w2 ⟨rfl, hb⟩
      unfold gX gQ gE
      replace HB := Lib.hid (below_via HB.out hb)
      replace HG := Lib.hid (HG.out.below hb)
      clear hb
      go_wp2_with fail
      refine (H2.out w2 HG.out).mono ?_
      rintro e w3 ⟨rfl, hb⟩
      replace HB := Lib.hid (below_via HB.out hb)
      replace HG := Lib.hid (HG.out.below hb)
      clear hb
      go_wp2_with fail
      refine (fixed_any _ HG.out).mono ?_
      rintro e w4 ⟨rfl, hb⟩
      go_wp2_with fail
      go_ret
      exact ⟨rfl, below_via HB.out hb⟩
end Go.Proofs.YtmgfbmkfgbildaaDoor
