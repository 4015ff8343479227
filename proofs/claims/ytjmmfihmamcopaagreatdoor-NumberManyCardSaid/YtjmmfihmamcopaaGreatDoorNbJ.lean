/- number: cite. -/
import Derived.Test.YtjmmfihmamcopaaGreatDoorNbI
import Derived.Test.YtjmmfihmamcopaaGreatDoorNbPl2
namespace Go.Proofs.YtjmmfihmamcopaaGreatDoor
open Go.RowKit Tx Nb

set_option maxRecDepth 100000 in
theorem cite1_any (c : Ci) (kb : Nat) (key : Bs) (w : World) (hk : w.cell? ⟨kb, 0, none⟩ = some (vs key)) :
    Calls Tryz.prog 56 #[.agg #[vs c.key, vs c.label, vs c.text], .pointer (some ⟨kb, 0, none⟩)] w fun e w' => e = .returned (.bool (c.key == key)) ∧ Below w.heap.size w w' := by
  have hkl := World.block_lt_of_cell? w _ hk
  have hk2 : (w.alloc (.cells #[vs c.key, vs c.label, vs c.text] 67)).cell? ⟨kb, 0, none⟩ = some (vs key) := (World.cell?_alloc_old _ _ _ (Nat.ne_of_lt hkl)).trans hk
  have he := bs_beq c.key key
  obtain ⟨q, hq⟩ : ∃ q, q = (c.key == key) := ⟨_, rfl⟩
  rw [← hq] at he ⊢
  clear hq hk hkl
  go_enter Tryz.func56, Tryz.ntmps56
  go_wp2_with fail
  go_ret
  exact ⟨rfl, (Below.refl _ _).alloc (Nat.le_refl _) _⟩
theorem ciAt_none {l : List Ci} {k : Bs} (h : (l.any fun x => x.key == k) = false) : ciAt l k = none := by
  unfold ciAt
  rw [List.find?_eq_none]
  intro x hx
  exact List.any_eq_false.1 h x hx
theorem ciAt_at {l : List Ci} {k : Bs} {j : Nat} (hj : j < l.length) (h1 : ((l.take j).any fun x => x.key == k) = false) (h2 : (l[j].key == k) = true) : ciAt l k = some l[j] := by
  unfold ciAt
  rw [List.find?_eq_some_iff_getElem]
  refine ⟨h2, j, hj, rfl, fun i hi => ?_⟩
  have := List.any_eq_false.1 h1 l[i] (List.mem_take_iff_getElem.2 ⟨i, by omega, rfl⟩)
  simpa using this
/-- Where a key stands first. -/
def IxIs (l : List Ci) (k : Bs) (e : Ending) : Prop := (e = .returned (.int .i64 (-1)) ∧ ciAt l k = none) ∨ ∃ j, ∃ h : j < l.length, e = .returned (.int .i64 (j : Nat)) ∧ ciAt l k = some l[j]
set_option maxRecDepth 100000 in
set_option maxHeartbeats 4000000 in
theorem ixf_any {w : World} (vl : Value) (l : List Ci) (kb : Nat) (key : Bs) (hk : w.cell? ⟨kb, 0, none⟩ = some (vs key)) (hr : RowC 3 ciF w w.heap.size vl l) (_hn : l.length < 1000000) :
    Calls Tryz.prog 55 #[vl, .func (.func 56) #[] #[.pointer (some ⟨kb, 0, none⟩)]] w fun e w' => IxIs l key e ∧ Below w.heap.size w w' := by
  obtain ⟨A, c, rfl, h1, h2, h3⟩ := hr.shape
  have HC := Lib.hid h3
  have hkl := World.block_lt_of_cell? w _ hk
  have HK := Lib.hid hk
  clear hr h3 hk
  go_enter Tryz.func55, Tryz.ntmps55
  go_wp2_with fail
  go_loopw [8] (fun i wr => ∃ j : Nat, j ≤ l.length ∧ i = .int .i64 j ∧ ((l.take j).any fun x => x.key == key) = false ∧ Below w.heap.size w wr) (fun i _ => l.length - (RowKit.intOf i).toNat)
  case atStart => exact ⟨0, Nat.zero_le _, rfl, rfl, Below.refl _ _⟩
  case round =>
    obtain ⟨j, hj, rfl, hno, hbel⟩ := hrel
    have HNO := Lib.hid hno
    have HBL := Lib.hid hbel
    by_cases hjt : j < l.length
    · have hi : (j : Int) < (l.length : Int) := by omega
      have hi0 : (0 : Int) ≤ (j : Int) := by omega
      obtain ⟨b, off, rfl, hbl, hc⟩ := HC.out (by intro e; rw [e] at hjt; simp at hjt)
      have c0 := (hbel.cell (p := ⟨b, off + j * 3, none⟩) hbl).trans (hc j hjt 0 _ rfl)
      have c1 := (hbel.cell (p := ⟨b, off + j * 3 + 1, none⟩) hbl).trans (hc j hjt 1 _ rfl)
      have c2 := (hbel.cell (p := ⟨b, off + j * 3 + 2, none⟩) hbl).trans (hc j hjt 2 _ rfl)
      have HF := Lib.hid (fun h2 => ciAt_at (k := key) hjt hno h2)
      have HT : Hid (l.take (j + 1) = l.take j ++ [l[j]]) := Lib.hid (List.take_succ_eq_append_getElem hjt)
      have HLT := Lib.hid hjt
      have HX : Hid (l[j]? = some l[j]) := Lib.hid (List.getElem?_eq_getElem hjt)
      have HCL := Lib.hid (cite1_any l[j] kb key wr ((hbel.cell (p := ⟨kb, 0, none⟩) hkl).trans HK.out))
      have HG : Hid (∀ x, l[j] = x → l[j] = x) := Lib.hid fun _ h => h
      generalize hx : l[j] = x at *
      clear hc hno hbel
      cases hk : x.key == key with
      | true =>
        rw [hk] at HCL
        have HFX := Lib.hid (HF.out hk)
        have HXX := Lib.hid hx
        clear hk hx
        go_wp2_with fail
        refine HCL.out.mono ?_
        rintro e w2 ⟨rfl, b2⟩
        have HB2 := Lib.hid (HBL.out.trans (b2.mono HBL.out.size))
        clear b2
        go_wp2_with fail
        go_ret
        exact ⟨.inr ⟨j, HLT.out, rfl, HFX.out.trans (congrArg some HXX.out.symm)⟩, HB2.out⟩
      | false =>
        rw [hk] at HCL
        have HKF := Lib.hid hk
        clear hk hx
        go_wp2_with fail
        refine HCL.out.mono ?_
        rintro e w2 ⟨rfl, b2⟩
        have HB2 := Lib.hid (HBL.out.trans (b2.mono HBL.out.size))
        clear b2
        go_wp2_with fail
        go_roundw
        case rel => exact ⟨j + 1, by omega, by go_num, by rw [HT.out, List.any_append, HNO.out]; simp [HKF.out], HB2.out⟩
        case measure => simp [RowKit.intOf]; omega
    · obtain rfl : j = l.length := by omega
      have hi : ¬ (l.length : Int) < (l.length : Int) := by omega
      have HNN := Lib.hid (ciAt_none (l := l) (k := key) (by rw [List.take_length] at hno; exact hno))
      clear hno hbel
      go_wp2_with fail
      go_ret
      exact ⟨.inl ⟨rfl, HNN.out⟩, HBL.out⟩
/-- What a work was given. -/
structure EnvIs (B : Nat) (w0 : World) (k : Cst) (E : Env) : Prop where
  lb : RowC 3 labF w0 B k.oL E.labels
  hd : RowC 4 hdF w0 B k.oH E.heads
  bb : RowC 3 ciF w0 B k.bbl E.bbl
  ind : RowC 1 txF w0 B k.ind E.ind
  ok : E.Ok
  gl : ∀ wx, Below B w0 wx → Gl wx
theorem below_row {α : Type} {n : Nat} {f : α → List Value} {B : Nat} {w0 w : World} {v : Value} {xs : List α} (h : RowC n f w0 B v xs) (hb : Below B w0 w) (hB : B ≤ w.heap.size) : RowC n f w w.heap.size v xs := (h.below hb (Nat.le_refl _)).more hB
theorem Is.hB {B wb : Nat} {w0 w : World} {k : Cst} {s : St} (h : Is B w0 w wb k s) : B ≤ w.heap.size := by
  obtain ⟨v, hw⟩ := h
  exact hw.hB
/-- What an item's citation does first. -/
def citeS (E : Env) (s : St) (t : Bs) : St := match ciAt E.bbl t with
  | none => Nb.note (say s [91, 63, 93]) 14 t
  | some c => say s (91 :: (c.label ++ [93]))
theorem cite_eq (E : Env) (s : St) (t : Bs) : Nb.cite E s t = noteIf { citeS E s t with cites := (once (citeS E s t).cites t 100).1 } (once (citeS E s t).cites t 100).2 t := rfl
theorem citeS_bd {E : Env} {s : St} {T : Nat} (h : Bd s T) (hi : Inv s) (hE : E.Ok) (t : Bs) : Bd (citeS E s t) (T + 200) ∧ Inv (citeS E s t) := by
  unfold citeS
  cases hc : ciAt E.bbl t with
  | none => exact ⟨((h.say hi [91, 63, 93] 10 (by simp)).note 14 t).mono (by omega), (hi.say _).note _ _⟩
  | some c =>
    have := (hE.bbt c (List.mem_of_find?_eq_some hc)).1
    exact ⟨(h.say hi _ 150 (by simp; omega)).mono (by omega), hi.say _⟩
section
variable {B wb : Nat} {w0 w : World} {k : Cst} {s : St}
set_option maxRecDepth 100000 in
set_option maxHeartbeats 16000000 in
theorem cite_any {E : Env} (h : Is B w0 w wb k s) (hi : Inv s) (T : Nat) (hT : T ≤ 800000) (hd : Bd s T) (hE : EnvIs B w0 k E) (t : Bs) :
    Calls Tryz.prog 28 #[.pointer (some ⟨wb, 0, none⟩), vs t] w fun e' w' => e' = .returned (.tuple #[]) ∧ Is B w0 w' wb k (Nb.cite E s t) := by
  have hb1 : Below w.heap.size w (w.alloc (.cells #[vs t] 9)) := (Below.refl _ _).alloc (Nat.le_refl _) _
  have hnew := heap_alloc_new w (.cells #[vs t] 9)
  have hk := h.keep hb1 w.heap.size _ (Nat.le_refl _) hnew
  have y14 : (w.alloc (.cells #[vs t] 9)).cell? ⟨wb, 14, none⟩ = some k.bbl := (hk.env).2.2.2.2.1
  have hrow := below_row hE.bb hk.bel hk.hB
  have HIX := Lib.hid (ixf_any k.bbl E.bbl w.heap.size t (by rw [Lib.cell_of_heap hnew]; rfl) hrow (by have := hE.ok.bb; omega))
  have HK1 := Lib.hid hk
  have HE := Lib.hid hE
  have HI := Lib.hid hi
  have HBD := Lib.hid hd
  have HROW := Lib.hid hrow
  obtain ⟨bA, bc, hbv, _⟩ := hrow.shape
  rw [hbv] at y14
  have HBV := Lib.hid hbv
  have HCS := Lib.hid (citeS_bd hd hi hE.ok t)
  rw [hbv] at HIX
  have hbl := hE.ok.bb
  clear h hi hd hE hnew hk hrow hbv hb1
  go_enter Tryz.func28, Tryz.ntmps28
  go_wp2_with fail
  refine HIX.out.mono ?_
  rintro e w2 ⟨hix, b2⟩
  have HK2 := Lib.hid (HK1.out.below b2)
  have HB2 := Lib.hid b2
  rcases hix with ⟨rfl, hno⟩ | ⟨j, hj, rfl, hat⟩
  · have HST : Hid (citeS E s t = Nb.note (say s [91, 63, 93]) 14 t) := Lib.hid (by unfold citeS; rw [hno])
    clear b2 hno y14
    go_wp2_with fail
    refine (say_any HK2.out HI.out T (by omega) HBD.out [91, 63, 93] (by simp)).mono ?_
    rintro e w3 ⟨rfl, H3⟩
    have HK3 := Lib.hid H3
    have z0 : w3.cell? ⟨w.heap.size, 0, none⟩ = some (vs t) := by rw [Lib.cell_of_heap (H3.res (p := (w.heap.size, .cells #[vs t] 9 (0, 0))) (by simp))]; rfl
    have HNT := Lib.hid (note_any H3 14 t (by have := (HBD.out.say HI.out [91, 63, 93] 10 (by simp)).nt; omega))
    clear H3
    go_wp2_with fail
    refine HNT.out.mono ?_
    rintro e w6 ⟨rfl, H6⟩
    rw [← HST.out] at H6
    have HK6 := Lib.hid H6
    clear H6 z0
    obtain ⟨s6, hs6⟩ : ∃ s6, s6 = citeS E s t := ⟨_, rfl⟩
    have HS6 := Lib.hid hs6.symm
    rw [← hs6] at HK6 HCS
    clear hs6
    go_upto_region 6 with fail
    obtain ⟨v6, hw6⟩ := HK6.out
    have hw6d := hw6.below ((Below.refl w6.heap.size w6).drew)
    have HON := Lib.hid (once_any (w := w6.drew) hw6d 3 (by omega) s6.cites (fun l => { s6 with cites := l }) rfl (fun _ => rfl) (fun _ => rfl) (fun _ => rfl) (fun _ _ => rfl) (fun l v j h1 h2 h3 => by rcases ten_cases h3 with rfl | rfl | rfl | rfl | rfl | rfl | rfl | rfl | rfl | rfl <;> first | rfl | omega) (by have := HCS.out.1.nt; omega) (by have := HCS.out.1.ci; omega) t 100 (by omega))
    have hS0 : (fun wz : World => wz.cell? ⟨wb, 3, none⟩ = some (v6 3) ∧ wz.cell? ⟨w.heap.size, 0, none⟩ = some (vs t)) w6.drew := ⟨hw6d.cell 3, by rw [Lib.cell_of_heap (hw6d.res (w.heap.size, .cells #[vs t] 9 (0, 0)) (by simp)).1]; rfl⟩
    clear hw6 hw6d
    refine wp_region_headS 10 (fun wz : World => wz.cell? ⟨wb, 3, none⟩ = some (v6 3) ∧ wz.cell? ⟨w.heap.size, 0, none⟩ = some (vs t)) (by kernel_rfl) (by kernel_rfl) ?_
    refine WS_take (i := 0) (v := ?va0) (by simp only [List.getElem?_toArray, List.getElem?_cons_zero]; rfl) (by decide) (by kernel_rfl) (by kernel_rfl) (by intro _ _ _ h; exact h) (Or.inl ⟨by rfl, ?hya0⟩) hS0 ?resta0
    case hya0 =>
      intro wx hx
      obtain ⟨s1, s2⟩ := hx
      go_simp
      try with_reducible rfl
    try simp only [Act.put, List.setIfInBounds_toArray, List.set_cons_zero, List.set_cons_succ]
    refine WS_take (i := 1) (v := ?va1) (by simp only [List.getElem?_toArray, List.getElem?_cons_succ, List.getElem?_cons_zero]; rfl) (by decide) (by kernel_rfl) (by kernel_rfl) (by intro _ _ _ h; exact h) (Or.inl ⟨by rfl, ?hya1⟩) hS0 ?resta1
    case hya1 =>
      intro wx hx
      obtain ⟨s1, s2⟩ := hx
      go_simp
      try with_reducible rfl
    try simp only [Act.put, List.setIfInBounds_toArray, List.set_cons_zero, List.set_cons_succ]
    refine WS_take (i := 2) (v := ?va2) (by simp only [List.getElem?_toArray, List.getElem?_cons_succ, List.getElem?_cons_zero]; rfl) (by decide) (by kernel_rfl) (by kernel_rfl) (by intro _ _ _ h; exact h) (Or.inl ⟨by rfl, ?hya2⟩) hS0 ?resta2
    case hya2 =>
      intro wx hx
      obtain ⟨s1, s2⟩ := hx
      go_simp
      try with_reducible rfl
    try simp only [Act.put, List.setIfInBounds_toArray, List.set_cons_zero, List.set_cons_succ]
    refine WS_take (i := 3) (v := ?va3) (by simp only [List.getElem?_toArray, List.getElem?_cons_succ, List.getElem?_cons_zero]; rfl) (by decide) (by kernel_rfl) (by kernel_rfl) (by intro _ _ _ h; exact h) (Or.inl ⟨by rfl, ?hya3⟩) hS0 ?resta3
    case hya3 =>
      intro wx hx
      obtain ⟨s1, s2⟩ := hx
      go_simp
      try with_reducible rfl
    try simp only [Act.put, List.setIfInBounds_toArray, List.set_cons_zero, List.set_cons_succ]
    refine WS_take (i := 4) (v := ?va4) (by simp only [List.getElem?_toArray, List.getElem?_cons_succ, List.getElem?_cons_zero]; rfl) (by decide) (by kernel_rfl) (by kernel_rfl) (by intro _ _ _ h; exact h) (Or.inl ⟨by rfl, ?hya4⟩) hS0 ?resta4
    case hya4 =>
      intro wx hx
      obtain ⟨s1, s2⟩ := hx
      go_simp
      try with_reducible rfl
    try simp only [Act.put, List.setIfInBounds_toArray, List.set_cons_zero, List.set_cons_succ]
    refine WS_take (i := 5) (v := ?va5) (by simp only [List.getElem?_toArray, List.getElem?_cons_succ, List.getElem?_cons_zero]; rfl) (by decide) (by kernel_rfl) (by kernel_rfl) (by intro _ _ _ h; exact h) (Or.inl ⟨by rfl, ?hya5⟩) hS0 ?resta5
    case hya5 =>
      intro wx hx
      obtain ⟨s1, s2⟩ := hx
      go_simp
      try with_reducible rfl
    try simp only [Act.put, List.setIfInBounds_toArray, List.set_cons_zero, List.set_cons_succ]
    refine WS_take (i := 6) (v := ?va6) (by simp only [List.getElem?_toArray, List.getElem?_cons_succ, List.getElem?_cons_zero]; rfl) (by decide) (by kernel_rfl) (by kernel_rfl) (by intro _ _ _ h; exact h) (Or.inl ⟨by rfl, ?hya6⟩) hS0 ?resta6
    case hya6 =>
      intro wx hx
      obtain ⟨s1, s2⟩ := hx
      go_simp
      try with_reducible rfl
    try simp only [Act.put, List.setIfInBounds_toArray, List.set_cons_zero, List.set_cons_succ]
    refine WS_take (i := 7) (v := ?va7) (by simp only [List.getElem?_toArray, List.getElem?_cons_succ, List.getElem?_cons_zero]; rfl) (by decide) (by kernel_rfl) (by kernel_rfl) (by intro _ _ _ h; exact h) (Or.inl ⟨by rfl, ?hya7⟩) hS0 ?resta7
    case hya7 =>
      intro wx hx
      obtain ⟨s1, s2⟩ := hx
      go_simp
      try with_reducible rfl
    try simp only [Act.put, List.setIfInBounds_toArray, List.set_cons_zero, List.set_cons_succ]
    refine WS_take (i := 8) (v := ?va8) (by simp only [List.getElem?_toArray, List.getElem?_cons_succ, List.getElem?_cons_zero]; rfl) (by decide) (by kernel_rfl) (by kernel_rfl) (by intro _ _ _ h; exact h) (Or.inl ⟨by rfl, ?hya8⟩) hS0 ?resta8
    case hya8 =>
      intro wx hx
      obtain ⟨s1, s2⟩ := hx
      go_simp
      try with_reducible rfl
    try simp only [Act.put, List.setIfInBounds_toArray, List.set_cons_zero, List.set_cons_succ]
    refine WS_one (i := 9) (by simp only [List.getElem?_toArray, List.getElem?_cons_succ, List.getElem?_cons_zero]; rfl) (by decide) (by kernel_rfl) (fun K hK => (if_pos (by kernel_rfl)).mpr ?_)
    go_simp
    refine HON.out.mono ?_
    rintro e w7 ⟨A7, n7, c7, rfl, q1, q2, q3, q4⟩
    dsimp only
    have hS7 : (fun wz : World => wz.cell? ⟨wb, 3, none⟩ = some (v6 3) ∧ wz.cell? ⟨w.heap.size, 0, none⟩ = some (vs t)) w7 := ⟨q1, by rw [Lib.cell_of_heap (q4 (w.heap.size, .cells #[vs t] 9 (0, 0)) (by simp))]; rfl⟩
    have HQ := Lib.hid q3
    refine hK _ _ hS7 ?_
    clear hK K hS7 hS0 q3 q4
    try simp only [Act.put, List.setIfInBounds_toArray, List.set_cons_zero, List.set_cons_succ]
    refine WS_done (by kernel_rfl) ?_
    simp only [List.drop_succ_cons, List.drop_zero]
    go_wp2_with fail
    go_end0
    exact ⟨rfl, by rw [cite_eq, HS6.out]; exact Is.free (R := [(w.heap.size, .cells #[vs t] 9 (0, 0))]) HQ.out⟩
  · have HST : Hid (citeS E s t = say s (91 :: (E.bbl[j].label ++ [93]))) := Lib.hid (by unfold citeS; rw [hat])
    have hrow2 := HROW.out.step HB2.out
    rw [HBV.out] at hrow2
    obtain ⟨_, _, _, hcx⟩ := hrow2.bounds
    obtain ⟨b, off, rfl, hbl2, hcc⟩ := hcx j hj
    have c1 := hcc 1 _ rfl
    have z14 : w2.cell? ⟨wb, 14, none⟩ = some (.slice (some ⟨b, off, none⟩) E.bbl.length bc) := by
      have := (HK2.out.env).2.2.2.2.1
      rw [← HBV.out]
      exact this
    have hji : (j : Int) < (E.bbl.length : Int) := by omega
    have hj0 : (0 : Int) ≤ (j : Int) := by omega
    have hjn : ¬ ((j : Int) < 0) := by omega
    have hll := (HE.out.ok.bbt E.bbl[j] (List.getElem_mem hj)).1
    generalize E.bbl[j] = x at *
    have o1 : (⟨#[91]⟩ : ByteArray) ++ bs x.label = bs (91 :: x.label) := by show bs [91] ++ _ = _; rw [bs_append]; rfl
    have o2 : bs (91 :: x.label) ++ (⟨#[93]⟩ : ByteArray) = bs (91 :: (x.label ++ [93])) := by show _ ++ bs [93] = _; rw [bs_append]; rfl
    have l1 : (bs x.label).size = x.label.length := bs_size _
    have l2 : (bs (91 :: x.label)).size = x.label.length + 1 := by rw [bs_size]; rfl
    clear b2 hat y14 hrow2 hcx hcc hj
    go_wp2_with fail
    refine (say_any HK2.out HI.out T (by omega) HBD.out (91 :: (x.label ++ [93])) (by simp; omega)).mono ?_
    rintro e w6 ⟨rfl, H6⟩
    rw [← HST.out] at H6
    have HK6 := Lib.hid H6
    clear H6 c1 z14
    obtain ⟨s6, hs6⟩ : ∃ s6, s6 = citeS E s t := ⟨_, rfl⟩
    have HS6 := Lib.hid hs6.symm
    rw [← hs6] at HK6 HCS
    clear hs6
    go_upto_region 6 with fail
    obtain ⟨v6, hw6⟩ := HK6.out
    have hw6d := hw6.below ((Below.refl w6.heap.size w6).drew)
    have HON := Lib.hid (once_any (w := w6.drew) hw6d 3 (by omega) s6.cites (fun l => { s6 with cites := l }) rfl (fun _ => rfl) (fun _ => rfl) (fun _ => rfl) (fun _ _ => rfl) (fun l v j h1 h2 h3 => by rcases ten_cases h3 with rfl | rfl | rfl | rfl | rfl | rfl | rfl | rfl | rfl | rfl <;> first | rfl | omega) (by have := HCS.out.1.nt; omega) (by have := HCS.out.1.ci; omega) t 100 (by omega))
    have hS0 : (fun wz : World => wz.cell? ⟨wb, 3, none⟩ = some (v6 3) ∧ wz.cell? ⟨w.heap.size, 0, none⟩ = some (vs t)) w6.drew := ⟨hw6d.cell 3, by rw [Lib.cell_of_heap (hw6d.res (w.heap.size, .cells #[vs t] 9 (0, 0)) (by simp)).1]; rfl⟩
    clear hw6 hw6d
    refine wp_region_headS 10 (fun wz : World => wz.cell? ⟨wb, 3, none⟩ = some (v6 3) ∧ wz.cell? ⟨w.heap.size, 0, none⟩ = some (vs t)) (by kernel_rfl) (by kernel_rfl) ?_
    refine WS_take (i := 0) (v := ?vb0) (by simp only [List.getElem?_toArray, List.getElem?_cons_zero]; rfl) (by decide) (by kernel_rfl) (by kernel_rfl) (by intro _ _ _ h; exact h) (Or.inl ⟨by rfl, ?hyb0⟩) hS0 ?restb0
    case hyb0 =>
      intro wx hx
      obtain ⟨s1, s2⟩ := hx
      go_simp
      try with_reducible rfl
    try simp only [Act.put, List.setIfInBounds_toArray, List.set_cons_zero, List.set_cons_succ]
    refine WS_take (i := 1) (v := ?vb1) (by simp only [List.getElem?_toArray, List.getElem?_cons_succ, List.getElem?_cons_zero]; rfl) (by decide) (by kernel_rfl) (by kernel_rfl) (by intro _ _ _ h; exact h) (Or.inl ⟨by rfl, ?hyb1⟩) hS0 ?restb1
    case hyb1 =>
      intro wx hx
      obtain ⟨s1, s2⟩ := hx
      go_simp
      try with_reducible rfl
    try simp only [Act.put, List.setIfInBounds_toArray, List.set_cons_zero, List.set_cons_succ]
    refine WS_take (i := 2) (v := ?vb2) (by simp only [List.getElem?_toArray, List.getElem?_cons_succ, List.getElem?_cons_zero]; rfl) (by decide) (by kernel_rfl) (by kernel_rfl) (by intro _ _ _ h; exact h) (Or.inl ⟨by rfl, ?hyb2⟩) hS0 ?restb2
    case hyb2 =>
      intro wx hx
      obtain ⟨s1, s2⟩ := hx
      go_simp
      try with_reducible rfl
    try simp only [Act.put, List.setIfInBounds_toArray, List.set_cons_zero, List.set_cons_succ]
    refine WS_take (i := 3) (v := ?vb3) (by simp only [List.getElem?_toArray, List.getElem?_cons_succ, List.getElem?_cons_zero]; rfl) (by decide) (by kernel_rfl) (by kernel_rfl) (by intro _ _ _ h; exact h) (Or.inl ⟨by rfl, ?hyb3⟩) hS0 ?restb3
    case hyb3 =>
      intro wx hx
      obtain ⟨s1, s2⟩ := hx
      go_simp
      try with_reducible rfl
    try simp only [Act.put, List.setIfInBounds_toArray, List.set_cons_zero, List.set_cons_succ]
    refine WS_take (i := 4) (v := ?vb4) (by simp only [List.getElem?_toArray, List.getElem?_cons_succ, List.getElem?_cons_zero]; rfl) (by decide) (by kernel_rfl) (by kernel_rfl) (by intro _ _ _ h; exact h) (Or.inl ⟨by rfl, ?hyb4⟩) hS0 ?restb4
    case hyb4 =>
      intro wx hx
      obtain ⟨s1, s2⟩ := hx
      go_simp
      try with_reducible rfl
    try simp only [Act.put, List.setIfInBounds_toArray, List.set_cons_zero, List.set_cons_succ]
    refine WS_take (i := 5) (v := ?vb5) (by simp only [List.getElem?_toArray, List.getElem?_cons_succ, List.getElem?_cons_zero]; rfl) (by decide) (by kernel_rfl) (by kernel_rfl) (by intro _ _ _ h; exact h) (Or.inl ⟨by rfl, ?hyb5⟩) hS0 ?restb5
    case hyb5 =>
      intro wx hx
      obtain ⟨s1, s2⟩ := hx
      go_simp
      try with_reducible rfl
    try simp only [Act.put, List.setIfInBounds_toArray, List.set_cons_zero, List.set_cons_succ]
    refine WS_take (i := 6) (v := ?vb6) (by simp only [List.getElem?_toArray, List.getElem?_cons_succ, List.getElem?_cons_zero]; rfl) (by decide) (by kernel_rfl) (by kernel_rfl) (by intro _ _ _ h; exact h) (Or.inl ⟨by rfl, ?hyb6⟩) hS0 ?restb6
    case hyb6 =>
      intro wx hx
      obtain ⟨s1, s2⟩ := hx
      go_simp
      try with_reducible rfl
    try simp only [Act.put, List.setIfInBounds_toArray, List.set_cons_zero, List.set_cons_succ]
    refine WS_take (i := 7) (v := ?vb7) (by simp only [List.getElem?_toArray, List.getElem?_cons_succ, List.getElem?_cons_zero]; rfl) (by decide) (by kernel_rfl) (by kernel_rfl) (by intro _ _ _ h; exact h) (Or.inl ⟨by rfl, ?hyb7⟩) hS0 ?restb7
    case hyb7 =>
      intro wx hx
      obtain ⟨s1, s2⟩ := hx
      go_simp
      try with_reducible rfl
    try simp only [Act.put, List.setIfInBounds_toArray, List.set_cons_zero, List.set_cons_succ]
    refine WS_take (i := 8) (v := ?vb8) (by simp only [List.getElem?_toArray, List.getElem?_cons_succ, List.getElem?_cons_zero]; rfl) (by decide) (by kernel_rfl) (by kernel_rfl) (by intro _ _ _ h; exact h) (Or.inl ⟨by rfl, ?hyb8⟩) hS0 ?restb8
    case hyb8 =>
      intro wx hx
      obtain ⟨s1, s2⟩ := hx
      go_simp
      try with_reducible rfl
    try simp only [Act.put, List.setIfInBounds_toArray, List.set_cons_zero, List.set_cons_succ]
    refine WS_one (i := 9) (by simp only [List.getElem?_toArray, List.getElem?_cons_succ, List.getElem?_cons_zero]; rfl) (by decide) (by kernel_rfl) (fun K hK => (if_pos (by kernel_rfl)).mpr ?_)
    go_simp
    refine HON.out.mono ?_
    rintro e w7 ⟨A7, n7, c7, rfl, q1, q2, q3, q4⟩
    dsimp only
    have hS7 : (fun wz : World => wz.cell? ⟨wb, 3, none⟩ = some (v6 3) ∧ wz.cell? ⟨w.heap.size, 0, none⟩ = some (vs t)) w7 := ⟨q1, by rw [Lib.cell_of_heap (q4 (w.heap.size, .cells #[vs t] 9 (0, 0)) (by simp))]; rfl⟩
    have HQ := Lib.hid q3
    refine hK _ _ hS7 ?_
    clear hK K hS7 hS0 q3 q4
    try simp only [Act.put, List.setIfInBounds_toArray, List.set_cons_zero, List.set_cons_succ]
    refine WS_done (by kernel_rfl) ?_
    simp only [List.drop_succ_cons, List.drop_zero]
    go_wp2_with fail
    go_end0
    exact ⟨rfl, by rw [cite_eq, HS6.out]; exact Is.free (R := [(w.heap.size, .cells #[vs t] 9 (0, 0))]) HQ.out⟩
end
end Go.Proofs.YtjmmfihmamcopaaGreatDoor
