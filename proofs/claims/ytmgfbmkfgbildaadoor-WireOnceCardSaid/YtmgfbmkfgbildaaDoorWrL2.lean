/- The walks of stetlaw03's WireMaps, WireOnce. -/
import Derived.Test.YtmgfbmkfgbildaaDoorWrL1
namespace Go.Proofs.YtmgfbmkfgbildaaDoor
open Go.RowKit Tx

theorem parse_errne (X : Bs) (y : Nat) (h : Wr.parse X = .error y) : y ≠ 0 := by
  unfold Wr.parse at h
  split at h
  · next e he => injection h with h; subst h; exact all_errne X X.length e (Nat.le_refl _) he
  · split at h
    · injection h with h; omega
    · split at h
      · cases h
      · injection h with h; omega

set_option maxRecDepth 100000 in
set_option maxHeartbeats 4000000 in
theorem wireMaps_any (a0 : ByteArray) (w : World) (hg : Gl w) (w0 : a0.size ≤ maxLen) :
    Calls Tryd.prog 7 #[.string a0] w fun e w' => e = .returned (.bool true) ∧ Below w.heap.size w w' := by
  obtain ⟨l, rfl⟩ : ∃ l, a0 = bs l := ⟨_, (bs_of a0).symm⟩
  have hx := xext_minr l 400
  have hs := bs_size l
  simp only [maxLen] at w0
  have i1 : (0 : Int) ≤ min ((bs l).size : Int) 400 := by omega
  have i2 : min ((bs l).size : Int) 400 ≤ ((bs l).size : Int) := by omega
  have hX : (l.take 400).length ≤ 400 := List.length_take_le _ _
  clear hs
  simp only [show ((400 : Nat) : Int) = 400 from rfl] at hx
  generalize l.take 400 = X at *
  have HG := Lib.hid hg
  clear hg
  have hle := parL_le X
  match hp : Wr.parse X with
  | .error y =>
    have hy := parse_errne X y hp
    have h1 : parE X = y := by unfold parE; rw [hp]
    have h2 : parL X = [] := by unfold parL; rw [hp]
    have hy0 : ((y : Int) != 0) = true := by simp; omega
    have H1 := Lib.hid (fun w hg => wParse_any X w (by omega) hg)
    have E := Lib.hid (And.intro h1 h2)
    clear h1 h2 hp hy hle
    go_enter Tryd.func7, Tryd.ntmps7
    go_wp2_with fail
    refine (H1.out w HG.out).mono ?_
    rintro e w1 ⟨hb, v, rfl, r⟩
    rw [E.out.1]
    rw [E.out.2] at r
    obtain ⟨A, cap, rfl, _⟩ := r.shape
    have HB := Lib.hid hb
    replace HG := Lib.hid (HG.out.below hb)
    clear hb r
    go_wp2_with fail
    refine (fixed_any _ HG.out).mono ?_
    rintro e w2 ⟨rfl, hb⟩
    go_wp2_with fail
    go_ret
    exact ⟨rfl, below_via HB.out hb⟩
  | .ok m =>
    have h1 : parE X = 0 := by unfold parE; rw [hp]
    have h2 : parL X = m := by unfold parL; rw [hp]
    have h3 := (Wr.files_parse X m hp).1
    rw [h2] at hle
    have H1 := Lib.hid (fun w hg => wParse_any X w (by omega) hg)
    have E := Lib.hid (And.intro h1 (And.intro h2 h3))
    have hle' : (m.length : Int) ≤ 32 := by omega
    clear h1 h2 hp h3
    go_enter Tryd.func7, Tryd.ntmps7
    go_wp2_with fail
    refine (H1.out w HG.out).mono ?_
    rintro e w1 ⟨hb, v, rfl, r⟩
    rw [E.out.1]
    rw [E.out.2.1] at r
    obtain ⟨A, cap, rfl, _⟩ := r.shape
    have R := Lib.hid r
    have HB := Lib.hid hb
    replace HG := Lib.hid (HG.out.below hb)
    clear hb r
    go_wp2_with fail
    refine (wFiles_any _ m w1 R.out (by rw [E.out.2.2]; omega) HG.out).mono ?_
    rintro e w2 ⟨rfl, hb⟩
    rw [E.out.2.2]
    replace HB := Lib.hid (below_via HB.out hb)
    replace HG := Lib.hid (HG.out.below hb)
    clear hb
    go_wp2_with fail
    refine (fixed_any _ HG.out).mono ?_
    rintro e w3 ⟨rfl, hb⟩
    go_wp2_with fail
    go_ret
    exact ⟨rfl, below_via HB.out hb⟩

/-- What WireOnce needs of two texts. -/
theorem once_eq (X Y : Bs) (hX : X.length ≤ 200) (hY : Y.length ≤ 200) (h : Wr.put X = Wr.put Y) : X = Y :=
  Wr.put_first X Y [] (by have : X.length ≤ 200 := hX; omega) (by have : Y.length ≤ 200 := hY; omega) (by rw [List.append_nil]; exact h)
theorem once_pre (X Y : Bs) (hX : X.length ≤ 200) (hY : Y.length ≤ 200) (h : (Wr.put Y).take (Wr.put X).length = Wr.put X) : X = Y := by
  refine Wr.put_first X Y ((Wr.put Y).drop (Wr.put X).length) (by have : X.length ≤ 200 := hX; omega) (by have : Y.length ≤ 200 := hY; omega) ?_
  conv => lhs; lhs; rw [← h]
  exact List.take_append_drop _ _
theorem once_cut (X : Bs) (hX : X.length ≤ 200) (k : Nat) (hk : k < (Wr.put X).length) : getR ((Wr.put X).take k) 0 999999 = .error 6 := by
  have h0 := getR_at (s := (Wr.put X).take k) (p := 0) (top := 999999) (Nat.zero_le _)
  have h1 : getR ((Wr.put X).take k) 0 999999 = match Wr.get1 ((Wr.put X).take k) 999999 with | .error e => .error e | .ok (x, r) => .ok (x, ((Wr.put X).take k).length - r.length) := h0
  rw [h1, Wr.get1_cut X (by have : X.length ≤ 200 := hX; omega) k hk]
theorem getR0 {X : Bs} {x : Bs} {q : Nat} (h : getR X 0 999999 = .ok (x, q)) : 0 < q ∧ q ≤ X.length ∧ Wr.put x = X.take q ∧ x.length ≤ X.length := by
  obtain ⟨h1, h2, _, h4, _⟩ := getR_ok (p := 0) (Nat.zero_le _) h
  rw [List.drop_zero] at h4
  have hl := congrArg List.length h4
  simp only [List.length_append, List.length_drop] at hl
  have hp : x.length ≤ (Wr.put x).length := by simp [Wr.put]; omega
  refine ⟨h1, h2, ?_, ?_⟩
  · have h5 : (Wr.put x).length = q := by omega
    conv => rhs; rw [h4, ← h5]
    rw [List.take_left']
    rfl
  · have : (Wr.put x).length ≤ List.length X := by omega
    omega
theorem tmod_cast (a b : Nat) : Int.tmod (a : Int) (b : Int) = ((a % b : Nat) : Int) := by rw [Int.tmod_eq_emod_of_nonneg (by omega)]; omega

set_option maxRecDepth 100000 in
set_option maxHeartbeats 4000000 in
theorem wireOnce_any (a0 a1 : ByteArray) (c : Int) (w : World) (hg : Gl w) (w0 : a0.size ≤ maxLen) (w1 : a1.size ≤ maxLen) (hc : 0 ≤ c ∧ c ≤ 255) :
    Calls Tryd.prog 6 #[.string a0, .string a1, .int .u8 c] w fun e w' => e = .returned (.bool true) ∧ Below w.heap.size w w' := by
  obtain ⟨l, rfl⟩ : ∃ l, a0 = bs l := ⟨_, (bs_of a0).symm⟩
  obtain ⟨l', rfl⟩ : ∃ l, a1 = bs l := ⟨_, (bs_of a1).symm⟩
  obtain ⟨cn, rfl⟩ : ∃ cn : Nat, c = (cn : Int) := ⟨c.toNat, by omega⟩
  have hx := xext_minr l 200
  have hx' := xext_minr l' 200
  have hs := bs_size l
  have hs' := bs_size l'
  simp only [maxLen] at w0 w1
  have i1 : (0 : Int) ≤ min ((bs l).size : Int) 200 := by omega
  have i2 : min ((bs l).size : Int) 200 ≤ ((bs l).size : Int) := by omega
  have i3 : (0 : Int) ≤ min ((bs l').size : Int) 200 := by omega
  have i4 : min ((bs l').size : Int) 200 ≤ ((bs l').size : Int) := by omega
  have hX : (l.take 200).length ≤ 200 := List.length_take_le _ _
  have hY : (l'.take 200).length ≤ 200 := List.length_take_le _ _
  clear hs hs'
  simp only [show ((200 : Nat) : Int) = 200 from rfl] at hx hx'
  generalize l.take 200 = X at *
  generalize l'.take 200 = Y at *
  have HG := Lib.hid hg
  have hcn : (cn : Int) ≤ 255 := hc.2
  have H1 := Lib.hid (fun w hg => wGet_any X 0 999999 w (by omega) (by decide) (by decide) hg)
  have HR := Lib.hid (fun x q => getR0 (X := X) (x := x) (q := q))
  have HE := Lib.hid (fun y => getR_err (s := X) (a := 0) (top := 999999) (y := y))
  have hb0 : (bs ([] : Bs)).toList = [] := toListB []
  have hXs := bs_size X
  clear hg hc
  generalize getR X 0 999999 = R at *
  go_enter Tryd.func6, Tryd.ntmps6
  go_wp2_with fail
  refine (H1.out w HG.out.et).mono ?_
  rintro e w1 ⟨rfl, hb⟩
  have HB := Lib.hid hb
  replace HG := Lib.hid (HG.out.below hb)
  clear hb H1
  go_upto_region 4 with fail
  go_cut [62] (fun b wx => b = .bool false ∧ Below w1.heap.size w1 wx)
  case first =>
    match R with
    | .error y =>
      have hy := HE.out y rfl
      have hy0 : ((y : Int) == 0) = false := by simp; omega
      have hy1 : ((y : Int) != 0) = true := by simp; omega
      unfold gX gQ gE
      clear hy HR HE
      go_quiet (fail)
      go_wp2_with fail
      go_meet
      exact ⟨rfl, below_of_drewN _⟩
    | .ok (x, q) =>
      obtain ⟨h1, h2, h3, h4⟩ := HR.out x q rfl
      have j1 : (1 : Int) ≤ (q : Int) := by omega
      have j2 : (q : Int) ≤ ((bs X).size : Int) := by omega
      have j3 : (0 : Int) ≤ (q : Int) := by omega
      have k1 : decide ((q : Int) < 1) = false := decide_eq_false (by omega)
      have k2 : decide (((bs X).size : Int) < (q : Int)) = false := decide_eq_false (by omega)
      have k3 : decide (q < 1) = false := decide_eq_false (by omega)
      have k4 : decide ((bs X).size < q) = false := decide_eq_false (by omega)
      have k5 : decide (X.length < q) = false := decide_eq_false (by omega)
      have hxe : (bs X).extract 0 q = bs (X.take q) := by rw [bs_extract']; rfl
      have hq0 : q ≠ 0 := by omega
      have H2 := Lib.hid (fun w hg => wPut_any x w (by omega) hg)
      rw [h3] at H2
      unfold gX gQ gE
      simp only [show ((0 : Nat) : Int) = 0 from rfl]
      generalize X.take q = P at *
      have hpp : ((bs P).toList != (bs P).toList) = false := by simp
      have hz0 : ((0 : Int) != 0) = false := rfl
      have hz1 : ((0 : Int) == 0) = true := rfl
      clear h3 h4 HR HE
      refine wp_region_quiet_below (by kernel_rfl) (by kernel_rfl) ?_
      repeat (go_big_quiet_step ((go_at_call 15; exact calls_regrown (H2.out _ (HG.out.below (regrown_below _ _))))))
      refine wpQuiet_nil ?_
      intro _ hw'
      obtain ⟨p, hw''⟩ := hw'
      subst hw''
      have k9 : Below w1.heap.size w1 (Go.Sort.grow (redrawn w1 p.d) p.os) := regrown_below w1 p
      go_wp2_with fail
      go_meet
      exact ⟨rfl, k9⟩
  case rest =>
    obtain ⟨rfl, hb⟩ := hcut
    replace HB := Lib.hid (below_via HB.out hb)
    replace HG := Lib.hid (HG.out.below hb)
    clear hb HR HE
    have HPX := Lib.hid (fun w hg => wPut_any X w (by omega) hg)
    have HPY := Lib.hid (fun w hg => wPut_any Y w (by omega) hg)
    have hq1 := once_eq X Y hX hY
    have hq2 := once_pre X Y hX hY
    have hq3 := once_cut X hX
    have hl1 := Wr.put_len X
    have hl2 := Wr.put_len Y
    have hm1 : (Wr.put X).length ≤ 1000 := by
      have := dig_len X.length (by omega)
      simp [Wr.put]
      omega
    have hm2 : (Wr.put Y).length ≤ 1000 := by
      have := dig_len Y.length (by omega)
      simp [Wr.put]
      omega
    have hpe : X = Y → Wr.put X = Wr.put Y := fun h => by rw [h]
    generalize Wr.put X = px at *
    generalize Wr.put Y = py at *
    have zx := bs_size px
    have zy := bs_size py
    have hmod : cn % px.length < px.length := Nat.mod_lt _ (by omega)
    have hq4 := hq3 (cn % px.length) hmod
    have htm := tmod_cast cn px.length
    have hem : (cn : Int) % (px.length : Int) = ((cn % px.length : Nat) : Int) := (Int.natCast_emod cn px.length).symm
    obtain ⟨k, hk⟩ : ∃ k, k = cn % px.length := ⟨_, rfl⟩
    rw [← hk] at htm hem hmod hq4
    have hxk : (bs px).extract 0 k = bs (px.take k) := by rw [bs_extract']; rfl
    have hxl : (bs py).extract 0 px.length = bs (py.take px.length) := by rw [bs_extract']; rfl
    have HC := Lib.hid (fun w hg => wGet_any (px.take k) 0 999999 w (by simp; omega) (by decide) (by decide) hg)
    rw [hq4] at HC
    simp only [gX, gQ, gE] at HC
    have j1 : (3 : Int) ≤ (px.length : Int) := by omega
    have j2 : (3 : Int) ≤ (py.length : Int) := by omega
    have j3 : (0 : Int) ≤ (k : Int) := by omega
    have j4 : (k : Int) ≤ ((bs px).size : Int) := by omega
    have j5 : ((px.length : Int) == 0) = false := by rw [beq_eq_false_iff_ne]; omega
    have k1 : decide ((px.length : Int) < 3) = false := decide_eq_false (by omega)
    have k2 : decide ((py.length : Int) < 3) = false := decide_eq_false (by omega)
    have k3 : decide (px.length < 3) = false := decide_eq_false (by omega)
    have k4 : decide (py.length < 3) = false := decide_eq_false (by omega)
    generalize px.take k = pk at *
    have HQ1 := Lib.hid hq1
    have HQ2 := Lib.hid hq2
    have HPE := Lib.hid hpe
    clear hq1 hq2 hq3 hq4 hpe hk hmod
    have hj0 : px.length ≠ 0 := by omega
    go_wp2_with fail
    refine (HPX.out _ HG.out).mono ?_
    rintro e w3 ⟨rfl, hb⟩
    replace HB := Lib.hid (below_via HB.out hb)
    replace HG := Lib.hid (HG.out.below hb)
    clear hb
    go_wp2_with fail
    refine (HPY.out _ HG.out).mono ?_
    rintro e w4 ⟨rfl, hb⟩
    replace HB := Lib.hid (below_via HB.out hb)
    replace HG := Lib.hid (HG.out.below hb)
    clear hb HPX HPY
    go_wp2_with fail
    refine (HC.out _ HG.out.et).mono ?_
    rintro e w5 ⟨rfl, hb⟩
    replace HB := Lib.hid (below_via HB.out hb)
    replace HG := Lib.hid (HG.out.below hb)
    clear hb HC
    by_cases hXY : X = Y
    · have hpp := HPE.out hXY
      subst hXY
      subst hpp
      clear HQ1 HQ2 HPE
      go_wp2_with fail
      all_goals
        refine (fixed_any _ HG.out).mono ?_
        rintro e w6 ⟨rfl, hb⟩
        go_wp2_with fail
        go_ret
        exact ⟨rfl, below_via HB.out hb⟩
    · have hpn : px ≠ py := fun h => hXY (HQ1.out h)
      have hpr : py.take px.length ≠ px := fun h => hXY (HQ2.out h)
      have e1 : ((bs X).toList == (bs Y).toList) = false := by rw [toListB, toListB]; simpa using hXY
      have e2 : ((bs px).toList == (bs py).toList) = false := by rw [toListB, toListB]; simpa using hpn
      have e3 : ((bs (py.take px.length)).toList == (bs px).toList) = false := by rw [toListB, toListB]; simpa using hpr
      have e4 : ((bs (py.take px.length)).toList != (bs px).toList) = true := by rw [bne, e3]; rfl
      generalize py.take px.length = pr at *
      clear hpn hpr hXY HQ1 HQ2 HPE
      by_cases hgt : py.length < px.length
      · have g1 : decide ((py.length : Int) < (px.length : Int)) = true := decide_eq_true (by omega)
        have g2 : decide (py.length < px.length) = true := decide_eq_true (by omega)
        have g3 : (py.length : Int) < (px.length : Int) := by omega
        go_wp2_with fail
        refine (fixed_any _ HG.out).mono ?_
        rintro e w6 ⟨rfl, hb⟩
        go_wp2_with fail
        go_ret
        exact ⟨rfl, below_via HB.out hb⟩
      · have g1 : decide ((py.length : Int) < (px.length : Int)) = false := decide_eq_false (by omega)
        have g2 : decide (py.length < px.length) = false := decide_eq_false (by omega)
        have g3 : (px.length : Int) ≤ ((bs py).size : Int) := by omega
        have g4 : (px.length : Int) ≤ (py.length : Int) := by omega
        have g5 : px.length ≤ py.length := by omega
        go_wp2_with fail
        refine (fixed_any _ HG.out).mono ?_
        rintro e w6 ⟨rfl, hb⟩
        go_wp2_with fail
        go_ret
        exact ⟨rfl, below_via HB.out hb⟩
end Go.Proofs.YtmgfbmkfgbildaaDoor
