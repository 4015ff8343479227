/- The reference's work: once, stepped, step. · The reference's work: step. · The reference's work: refer, cite. · The reference's work: its lines. -/
import Derived.Test.YtjmmfihmamcopaaGreatDoorRnE
import Derived.Test.YtjmmfihmamcopaaGreatDoorNbPl3
namespace Go.Proofs.YtjmmfihmamcopaaGreatDoor
open Go.RowKit Tx Nb

/-- Where a counter is. -/
def cnIx : Cn → Bs → Option Nat
  | [], _ => none
  | (a, _) :: l, s => if s = a then some 0 else (cnIx l s).map (· + 1)
theorem cnIx_none {l : Cn} {s : Bs} (h : ∀ a ∈ l.map Prod.fst, a ≠ s) : cnIx l s = none ∧ cnGet l s = none ∧ ∀ m, cnSet l s m = l ++ [(s, m)] := by
  induction l with
  | nil => exact ⟨rfl, rfl, fun _ => rfl⟩
  | cons a l ih =>
    obtain ⟨a, n⟩ := a
    have ha : s ≠ a := fun e => h a (by simp) e.symm
    obtain ⟨h1, h2, h3⟩ := ih (fun b hb => h b (by simp at hb ⊢; exact .inr hb))
    exact ⟨by simp [cnIx, ha, h1], by simp [cnGet, ha, h2], fun m => by simp [cnSet, ha, h3]⟩
theorem cnIx_at : ∀ {l : Cn} {s : Bs} {j : Nat} (hj : j < l.length), (∀ a ∈ (l.take j).map Prod.fst, a ≠ s) → l[j].1 = s → cnIx l s = some j
  | (a, n) :: l, s, 0, _, _, h => by
    have h' : a = s := h
    simp [cnIx, h']
  | (a, n) :: l, s, j + 1, hj, h1, h2 => by
    have ha : s ≠ a := fun e => h1 a (by simp) e.symm
    have := cnIx_at (l := l) (s := s) (j := j) (by simpa using hj) (fun b hb => h1 b (by simp at hb ⊢; exact .inr hb)) (by simpa using h2)
    simp [cnIx, ha, this]
theorem cnIx_some : ∀ {l : Cn} {s : Bs} {j : Nat}, cnIx l s = some j → ∃ hj : j < l.length, cnGet l s = some (l[j].2) ∧ (∀ m, (cnSet l s m).map Prod.fst = l.map Prod.fst) ∧ ∀ m, (cnSet l s m).map (fun p => (p.2 : Int)) = (l.map fun p => (p.2 : Int)).set j (m : Int)
  | (a, n) :: l, s, j, h => by
    by_cases ha : s = a
    · simp [cnIx, ha] at h
      subst h
      exact ⟨by simp, by simp [cnGet, ha], fun m => by simp [cnSet, ha], fun m => by simp [cnSet, ha]⟩
    · simp [cnIx, ha] at h
      obtain ⟨i, hi, rfl⟩ := h
      obtain ⟨h1, h2, h3, h4⟩ := cnIx_some hi
      exact ⟨by simpa using h1, by simp [cnGet, ha, h2], fun m => by simp [cnSet, ha, h3], fun m => by simp [cnSet, ha, h4]⟩
theorem cnIx_new {l : Cn} {s : Bs} (h : ∀ a ∈ l.map Prod.fst, a ≠ s) (m n : Nat) : cnIx (l ++ [(s, n)]) s = some l.length ∧ cnSet (l ++ [(s, n)]) s m = l ++ [(s, m)] := by
  refine ⟨cnIx_at (by simp) (by simpa using h) (by simp), ?_⟩
  induction l with
  | nil => simp [cnSet]
  | cons a l ih =>
    obtain ⟨a, k⟩ := a
    have ha : s ≠ a := fun e => h a (by simp) e.symm
    simp [cnSet, ha, ih (fun b hb => h b (by simp at hb ⊢; exact .inr hb))]
section
variable {B wb : Nat} {w0 w : World} {k : RCst} {s : St}
theorem Rk.self {v : Nat → Value} {N : Nat} {D : Nat → Desc} {c : Sc} (h : Rk B w0 w wb k v N D c) {i : Nat} (hi : i < 10) : Rk B w0 (w.setCell ⟨wb, i, none⟩ (v i)) wb k v N D c :=
  h.set i (v i) c (by rcases i with _ | _ | _ | _ | _ | _ | _ | _ | _ | _ | i <;> first | rfl | omega)
/-- A list that is behind 'once', before it is stored. -/
def ROncePost (B : Nat) (w0 : World) (wb : Nat) (k : RCst) (i : Nat) (u : Value) (s' : St) (e : Ending) (w' : World) : Prop :=
  ∃ A n c, e = .returned (.slice A n c) ∧ w'.cell? ⟨wb, i, none⟩ = some u ∧ w'.frozen? ⟨wb, i, none⟩ = false ∧ Ri B w0 (w'.setCell ⟨wb, i, none⟩ (.slice A n c)) wb k s' ∧ ∀ p ∈ k.res, w'.heap[p.1]? = some p.2
set_option maxRecDepth 100000 in
set_option maxHeartbeats 8000000 in
theorem ronce_any {v : Nat → Value} (hw : Rk B w0 w wb k v (12 + s.blocks.length) (rdesc s v) s.c) (i : Nat) (hi : 0 < i ∧ i < 10) (L : List Bs) (put : List Bs → St) (hp : put L = s) (hb : ∀ l, (put l).blocks = s.blocks) (hc : ∀ l, (put l).c = s.c)
    (hdi : ∀ l v, rdesc (put l) v i = ⟨9, 1, l.length, l.flatMap txF⟩) (hdj : ∀ l v j, j ≠ i → 0 < j → j < 12 → rdesc (put l) v j = rdesc s v j) (hnt : s.notes.length < 1000000) (hl : L.length < 1000000) (t : Bs) (most : Nat) (hi9 : i < 9) :
    Calls Tryz.prog 46 #[.pointer (some ⟨wb, 0, none⟩), v i, vs t, .int .i64 most] w (ROncePost B w0 wb k i (v i) (noteIf (put (once L t most).1) (once L t most).2 t)) := by
  have hpos : rpos i = i := by rcases i with _ | _ | _ | _ | _ | _ | _ | _ | _ | i <;> first | rfl | omega
  have ho : w.ownsRow B 9 1 (v i) L.length (L.flatMap txF) := by
    have := hw.ow.own i (by omega)
    have h9 := hdi L v
    rw [hp] at h9
    rw [h9] at this
    exact this
  have HW := Lib.hid hw
  have HO := Lib.hid ho
  have HNT := Lib.hid (rnote_rk hw 3 t hnt)
  obtain ⟨A1, c1, hv1⟩ := own_slice ho
  have HV1 := Lib.hid hv1
  have hself := hw.self (i := i) hi.2
  have HCE : Hid (∀ j (hj : j < L.length), ∃ g, A1 = some ⟨g, 0, none⟩ ∧ w.cell? ⟨g, j, none⟩ = some (vs L[j])) := Lib.hid (fun j hj => by
    obtain ⟨g, c, e, _, _, _, _, hcc⟩ := own_some ho (by omega)
    rw [hv1] at e
    injection e with e1 e2 e3
    refine ⟨g, e1, ?_⟩
    have h1 := (hcc j (by omega)).1
    have h2 := flat_at (f := txF) (n := 1) (fun _ => rfl) L j 0 hj (by omega)
    simp only [Nat.mul_one, Nat.add_zero] at h2
    rw [h1, h2]
    rfl)
  rw [hv1] at hself ⊢
  have HSELF := Lib.hid hself
  have hcell : w.cell? ⟨wb, i, none⟩ = some (v i) := by
    have := hw.cell (rpos i)
    rw [rcells_at v k s.c (by omega), hpos] at this
    exact this
  have HCELL := Lib.hid hcell
  have HPU := Lib.hid (fun (w' : World) (v' : Value) (h1 : (rdesc (put (L ++ [t])) v i).Is B w' v') h2 h3 => hw.push (w' := w') (s' := put (L ++ [t])) i (p := i) (by omega) hpos (hb _) (hc _) (hdj _ v) h1 h2 h3)
  have HDI := Lib.hid hdi
  have HP := Lib.hid hp
  clear hw ho hv1 hself hcell hp hb hc hdi hdj hpos
  go_enter Tryz.func46, Tryz.ntmps46
  go_wp2_with fail
  go_loopw [9] (fun ix wr => ∃ j : Nat, j ≤ L.length ∧ ix = .int .i64 j ∧ t ∉ L.take j ∧ wr = w) (fun ix _ => L.length - (RowKit.intOf ix).toNat)
  case atStart => exact ⟨0, Nat.zero_le _, rfl, by simp, rfl⟩
  case round =>
    obtain ⟨j, hj, rfl, hno, hwr⟩ := hrel
    subst hwr
    by_cases hjt : j < L.length
    · have hji : (j : Int) < (L.length : Int) := by omega
      have hj0 : (0 : Int) ≤ (j : Int) := by omega
      obtain ⟨g, rfl, hcc⟩ := HCE.out j hjt
      by_cases hx : L[j] = t
      · have he : ((bs L[j]).toList == (bs t).toList) = true := by rw [bs_beq]; simp [hx]
        have hin : t ∈ L := hx ▸ List.getElem_mem hjt
        have HR : Hid (noteIf (put (once L t most).1) (once L t most).2 t = s) := Lib.hid (by unfold Nb.once; rw [if_pos hin]; simpa [noteIf] using HP.out)
        generalize L[j] = x at *
        clear hno hx hin
        go_wp2_with fail
        go_ret
        exact ⟨_, _, c1, rfl, HCELL.out.trans (congrArg some HV1.out), HW.out.frozen i, by rw [HR.out]; exact ⟨v, HSELF.out⟩, fun p hp => (HW.out.res p hp).1⟩
      · have he : ((bs L[j]).toList == (bs t).toList) = false := by rw [bs_beq]; simp [hx]
        have HNX : Hid (t ∉ L.take (j + 1)) := Lib.hid (by
          rw [List.take_succ_eq_append_getElem hjt]
          simp only [List.mem_append, List.mem_singleton, not_or]
          exact ⟨hno, fun e => hx e.symm⟩)
        generalize L[j] = x at *
        clear hno hx
        go_wp2_with fail
        go_roundw
        case rel => exact ⟨j + 1, by omega, by go_num, HNX.out, trivial⟩
        case measure => simp [RowKit.intOf]; omega
    · obtain rfl : j = L.length := by omega
      have hji : ¬ (L.length : Int) < (L.length : Int) := by omega
      rw [List.take_length] at hno
      have ht := hno
      clear hno
      by_cases hm : most ≤ L.length
      · have hmi : (most : Int) ≤ (L.length : Int) := by omega
        have HR : Hid (noteIf (put (once L t most).1) (once L t most).2 t = Nb.note s 3 t) := Lib.hid (by unfold Nb.once; rw [if_neg ht, if_pos hm]; simp [noteIf, HP.out])
        clear hm ht
        go_wp2_with fail
        refine HNT.out.mono ?_
        rintro e w2 ⟨rfl, v2, H2, hv2⟩
        have HH2 := Lib.hid H2
        have HV2 := Lib.hid ((hv2 i (by omega)).trans HV1.out)
        clear H2 hv2
        go_wp2_with fail
        go_ret
        have h9 := HH2.out.self (i := i) hi.2
        have h8 : w2.cell? ⟨wb, i, none⟩ = some (v2 i) := (HH2.out.cell i).trans (by rcases i with _ | _ | _ | _ | _ | _ | _ | _ | _ | _ | i <;> first | rfl | omega)
        rw [HV2.out] at h9
        exact ⟨A1, _, c1, rfl, h8.trans (congrArg some HV2.out), HH2.out.frozen i, by rw [HR.out]; exact ⟨v2, h9⟩, fun p hp => (HH2.out.res p hp).1⟩
      · have hmi : ¬ ((most : Int) ≤ (L.length : Int)) := by omega
        have HR : Hid (noteIf (put (once L t most).1) (once L t most).2 t = put (L ++ [t])) := Lib.hid (by unfold Nb.once; rw [if_neg ht, if_neg hm]; simp [noteIf])
        obtain ⟨j0, hi0, hz0, hz1, hz2⟩ := info_parts strInfo
        clear hm ht
        go_wp2_with (at_builtin; refine wpList_appN (by rfl) (.tmp 31) (.tmp 33) 25 (by rfl) B 9 j0 _ 1 16 Tryz.underlying25 hi0 hz0 hz1 hz2 (by rfl) (by decide) (.slice A1 L.length c1) L.length (L.flatMap txF) (txF t) rfl (by simp [txF, Value.oneCell']) (by rfl) wr.heap.size rfl (by rfl) (HV1.out ▸ HO.out) HW.out.hB (by simp only [maxLen]; omega) (by omega) ?_; intro v' w' h1 h2 h3; obtain ⟨A', c', rfl⟩ := own_slice h1; have HH := Lib.hid (And.intro h1 (And.intro h2 h3)); clear h1 h2 h3)
        go_ret
        obtain ⟨h1, h2, h3⟩ := HH.out
        obtain ⟨_, q1, q2, q3⟩ := HPU.out w' (.slice A' (L.length + 1) c') (by rw [HDI.out]; simpa [Desc.Is] using h1) (by rw [HV1.out]; exact h2) (by rw [HV1.out]; exact h3)
        have q4 : w'.cell? ⟨wb, i, none⟩ = some (v i) := (q1 i).trans (by rcases i with _ | _ | _ | _ | _ | _ | _ | _ | _ | _ | i <;> first | rfl | omega)
        refine ⟨A', _, c', rfl, q4.trans (congrArg some HV1.out), q2 i, by rw [HR.out]; exact q3, fun p hp => ?_⟩
        have h8 := HW.out.lt _ (k.mem_res wb hp)
        exact (h2.block p.1 h8 (fun e => HW.out.ow.out i (by omega) p.1 (by rw [HV1.out]; exact e.symm) (k.mem_res wb hp))).trans (HW.out.res p hp).1
/-- What 'stepped' returns. -/
def ixV (o : Option Nat) : Value := match o with | some j => .int .i64 (j : Int) | none => .int .i64 (-1)
set_option maxRecDepth 100000 in
set_option maxHeartbeats 8000000 in
theorem rstepped_any (h : Ri B w0 w wb k s) (t : Bs) (hl : s.own.length < 1000000) :
    Calls Tryz.prog 44 #[.pointer (some ⟨wb, 0, none⟩), vs t] w fun e w' => e = .returned (ixV (cnIx s.own t)) ∧ w' = w := by
  obtain ⟨v, hw⟩ := h
  have ho : w.ownsRow B 9 1 (v 10) s.own.length ((s.own.map Prod.fst).flatMap txF) := hw.ow.own 10 (by omega)
  obtain ⟨A1, c1, hv1⟩ : ∃ A c, v 10 = .slice A s.own.length c := own_slice ho
  have y19 : w.cell? ⟨wb, 19, none⟩ = some (.slice A1 s.own.length c1) := (hw.cell 19).trans (by rw [← hv1]; rfl)
  have HCE : Hid (∀ j (hj : j < s.own.length), ∃ g, A1 = some ⟨g, 0, none⟩ ∧ w.cell? ⟨g, j, none⟩ = some (vs s.own[j].1)) := Lib.hid (fun j hj => by
    obtain ⟨g, c, e, _, _, _, _, hcc⟩ := own_some ho (by omega)
    rw [hv1] at e
    injection e with e1 e2 e3
    refine ⟨g, e1, ?_⟩
    have h1 := (hcc j (by omega)).1
    have h2 := flat_at (f := txF) (n := 1) (fun _ => rfl) (s.own.map Prod.fst) j 0 (by simpa using hj) (by omega)
    simp only [Nat.mul_one, Nat.add_zero] at h2
    rw [h1, h2, List.getElem_map]
    rfl)
  clear hw ho hv1
  go_enter Tryz.func44, Tryz.ntmps44
  go_wp2_with fail
  go_loopw [5] (fun ix wr => ∃ j : Nat, j ≤ s.own.length ∧ ix = .int .i64 j ∧ (∀ a ∈ (s.own.take j).map Prod.fst, a ≠ t) ∧ wr = w) (fun ix _ => s.own.length - (RowKit.intOf ix).toNat)
  case atStart => exact ⟨0, Nat.zero_le _, rfl, by simp, rfl⟩
  case round =>
    obtain ⟨j, hj, rfl, hno, hwr⟩ := hrel
    subst hwr
    by_cases hjt : j < s.own.length
    · have hji : (j : Int) < (s.own.length : Int) := by omega
      have hj0 : (0 : Int) ≤ (j : Int) := by omega
      obtain ⟨g, rfl, hcc⟩ := HCE.out j hjt
      by_cases hx : s.own[j].1 = t
      · have he : ((bs s.own[j].1).toList == (bs t).toList) = true := by rw [bs_beq]; simp [hx]
        have HR := Lib.hid (cnIx_at hjt hno hx)
        generalize s.own[j].1 = x at *
        clear hno hx
        go_wp2_with fail
        go_ret
        exact ⟨by rw [HR.out]; rfl, rfl⟩
      · have he : ((bs s.own[j].1).toList == (bs t).toList) = false := by rw [bs_beq]; simp [hx]
        have HNX : Hid (∀ a ∈ (s.own.take (j + 1)).map Prod.fst, a ≠ t) := Lib.hid (by
          rw [List.take_succ_eq_append_getElem hjt]
          intro a ha
          simp only [List.map_append, List.mem_append, List.map_cons, List.map_nil, List.mem_singleton] at ha
          rcases ha with ha | ha
          · exact hno a ha
          · rw [ha]; exact hx)
        generalize s.own[j].1 = x at *
        clear hno hx
        go_wp2_with fail
        go_roundw
        case rel => exact ⟨j + 1, by omega, by go_num, HNX.out, trivial⟩
        case measure => simp [RowKit.intOf]; omega
    · obtain rfl : j = s.own.length := by omega
      have hji : ¬ (s.own.length : Int) < (s.own.length : Int) := by omega
      rw [List.take_length] at hno
      have HR := Lib.hid (cnIx_none hno).1
      clear hno
      go_wp2_with fail
      go_ret
      exact ⟨by rw [HR.out]; rfl, rfl⟩
end
end Go.Proofs.YtjmmfihmamcopaaGreatDoor
namespace Go.Proofs.YtjmmfihmamcopaaGreatDoor
open Go.RowKit Tx Nb

section
variable {B wb : Nat} {w0 w : World} {k : RCst} {s : St}
theorem inF_len (x : Int) : (inF x).length = 1 := rfl
/-- A counter's value, as it lies. -/
theorem Ri.count {v : Nat → Value} (hw : Rk B w0 w wb k v (12 + s.blocks.length) (rdesc s v) s.c) {i : Nat} (hi : i < s.own.length) :
    ∃ g c, v 11 = .slice (some ⟨g, 0, none⟩) s.own.length c ∧ w.cell? ⟨wb, 20, none⟩ = some (.slice (some ⟨g, 0, none⟩) s.own.length c) ∧ w.cell? ⟨g, i, none⟩ = some (.int .i64 s.own[i].2) ∧ w.frozen? ⟨g, i, none⟩ = false := by
  have ho : w.ownsRow B 3 1 (v 11) s.own.length ((s.own.map fun p => (p.2 : Int)).flatMap inF) := hw.ow.own 11 (by omega)
  obtain ⟨g, c, e, _, _, _, _, hcc⟩ := own_some ho (by omega)
  have h1 := hcc i (by omega)
  have h2 := flat_at (f := inF) (n := 1) inF_len (s.own.map fun p => (p.2 : Int)) i 0 (by simpa using hi) (by omega)
  simp only [Nat.mul_one, Nat.add_zero] at h2
  rw [h2, List.getElem_map] at h1
  exact ⟨g, c, e, (hw.cell 20).trans (by rw [← e]; rfl), h1.1, h1.2⟩
/-- A counter is another one. -/
theorem Rk.count_to {v : Nat → Value} (hw : Rk B w0 w wb k v (12 + s.blocks.length) (rdesc s v) s.c) {t : Bs} {i g c : Nat} (hi : cnIx s.own t = some i) (hv : v 11 = .slice (some ⟨g, 0, none⟩) s.own.length c) (m : Nat) :
    Rk B w0 (w.setCell ⟨g, i, none⟩ (.int .i64 m)) wb k v (12 + s.blocks.length) (rdesc { s with own := cnSet s.own t m } v) s.c := by
  obtain ⟨hj, _, h1, h2⟩ := cnIx_some hi
  have h3 := hw.inplace (i := 11) (by omega) hv i (.int .i64 m) rfl
  have hlen : (cnSet s.own t m).length = s.own.length := by
    have := congrArg List.length (h1 m)
    simpa using this
  refine h3.re (fun j hj' => ?_)
  have key : ((s.own.map fun p => (p.2 : Int)).flatMap inF).set i (Value.int .i64 m) = ((cnSet s.own t m).map fun p => (p.2 : Int)).flatMap inF := by
    rw [h2 m]
    have : ∀ (l : List Int) (i : Nat), (l.flatMap inF).set i (Value.int .i64 (m : Int)) = (l.set i (m : Int)).flatMap inF := by
      intro l
      induction l with
      | nil => intro i; rfl
      | cons a l ih =>
        intro i
        cases i with
        | zero => rfl
        | succ i =>
          show Value.int .i64 a :: (l.flatMap inF).set i _ = _
          rw [ih i]
          rfl
    exact this _ _
  by_cases hji : j = 11
  · subst hji
    rw [upd_at]
    simp only [rdesc, hlen, key]
  · rw [upd_ne _ _ hji]
    by_cases h12 : j < 12
    · rcases twelve_cases h12 with rfl | rfl | rfl | rfl | rfl | rfl | rfl | rfl | rfl | rfl | rfl | rfl <;> first | rfl | omega | (simp only [rdesc, hlen, h1 m])
    · obtain ⟨m', rfl⟩ : ∃ m, j = m + 12 := ⟨j - 12, by omega⟩
      rfl
/-- What 'step' counts on. -/
def StepPost (B : Nat) (w0 : World) (wb : Nat) (k : RCst) (s : St) (t : Bs) (n : Nat) (iv : Value) (wx : World) : Prop :=
  ∃ (i : Nat) (own1 : Cn), iv = .int .i64 (i : Int) ∧ Ri B w0 wx wb k { s with own := own1 } ∧ cnIx own1 t = some i ∧ (∃ hi : i < own1.length, own1[i].2 = n) ∧ own1.length ≤ s.own.length + 1 ∧ cnSet own1 t (n + 1) = cnSet s.own t (n + 1)
set_option maxRecDepth 100000 in
set_option maxHeartbeats 16000000 in
theorem rstep_any (h : Ri B w0 w wb k s) (T : Nat) (hT : T ≤ 800000) (hd : Bd s T) (t : Bs) :
    Calls Tryz.prog 43 #[.pointer (some ⟨wb, 0, none⟩), vs t] w fun e' w' => e' = .returned (.tuple #[]) ∧ Ri B w0 w' wb k (Nb.step s t) := by
  have HK1 := Lib.hid h
  have hol := hd.ow
  have HST := Lib.hid (rstepped_any h t (by omega))
  have HNT := Lib.hid (rnote_any h 3 t (by have := hd.nt; omega))
  obtain ⟨n, hn⟩ : ∃ n, n = (cnGet s.own t).getD 0 := ⟨_, rfl⟩
  have hnT : n ≤ T := by
    rw [hn]
    cases hc : cnGet s.own t with
    | none => simp
    | some m => exact hd.og t m hc
  obtain ⟨v, hw⟩ := h
  obtain ⟨A1, c1, hv1⟩ : ∃ A c, v 10 = .slice A s.own.length c := own_slice (hw.ow.own 10 (by omega))
  have y19 : w.cell? ⟨wb, 19, none⟩ = some (.slice A1 s.own.length c1) := (hw.cell 19).trans (by rw [← hv1]; rfl)
  by_cases hc : cnGet s.own t = none ∧ 20 ≤ s.own.length
  · have HR : Hid (Nb.step s t = Nb.note s 3 t) := Lib.hid (by unfold Nb.step; rw [if_pos hc])
    have h20 : (20 : Int) ≤ (s.own.length : Int) := by omega
    have hix : cnIx s.own t = none := by
      cases hq : cnIx s.own t with
      | none => rfl
      | some j =>
        obtain ⟨_, h2, _⟩ := cnIx_some hq
        rw [hc.1] at h2
        cases h2
    rw [hix] at HST
    clear hd hv1 hw hn hc hix
    go_enter Tryz.func43, Tryz.ntmps43
    go_wp2_with fail
    refine HST.out.mono ?_
    rintro e w1 ⟨rfl, rfl⟩
    unfold ixV
    go_wp2_with fail
    refine HNT.out.mono ?_
    rintro e w2 ⟨rfl, H2⟩
    have HK2 := Lib.hid H2
    clear H2
    go_wp2_with fail
    refine bodyPost_ret (results_none rfl _ _ _) rfl ?_
    exact ⟨rfl, by rw [HR.out]; exact HK2.out⟩
  · have HR : Hid (Nb.step s t = { s with own := cnSet s.own t (n + 1), c := { s.c with last := dig (n + 1 : Nat) } }) := Lib.hid (by unfold Nb.step; rw [if_neg hc, ← hn])
    have HMR := Lib.hid (fun wx => rmore_any (wb := wb) n (by omega) t wx)
    have HC := Lib.hid hc
    have HN := Lib.hid hn
    have HV1 := Lib.hid hv1
    have HW := Lib.hid hw
    have HOL := Lib.hid hol
    clear hd hv1 hw hn hc
    cases hix : cnIx s.own t with
    | some i0 =>
      obtain ⟨hj, hg, _, _⟩ := cnIx_some hix
      have hin : ¬ ((i0 : Int) < 0) := by omega
      have HP : Hid (StepPost B w0 wb k s t n (.int .i64 (i0 : Int)) w) := Lib.hid ⟨i0, s.own, rfl, HK1.out, hix, ⟨hj, by rw [HN.out, hg]; rfl⟩, by omega, rfl⟩
      rw [hix] at HST
      unfold ixV at HST
      clear hix hg hj y19
      go_enter Tryz.func43, Tryz.ntmps43
      go_upto_region 7 with (go_at_call 44; refine HST.out.mono ?_; rintro e w1 ⟨rfl, rfl⟩)
      have hcut := HP.out
      obtain ⟨i9, own1, hiv, hI, hix, ⟨hi, hin⟩, hol1, hset⟩ := hcut
      injection hiv with _ hiv
      have hiv2 : i0 = i9 := by omega
      subst hiv2
      obtain ⟨W, hW⟩ : ∃ W, W = w1 := ⟨_, rfl⟩
      rw [← hW] at hI ⊢
      clear hiv hW
      obtain ⟨v2, hw2⟩ := hI
      obtain ⟨g, c2, hv2, y20, yi, fi⟩ := Ri.count hw2 hi
      simp only at hv2 y20 yi
      rw [hin] at yi
      have HW2 := Lib.hid hw2
      have HV2 := Lib.hid hv2
      have HIX := Lib.hid hix
      have HSET := Lib.hid hset
      have hii : (i0 : Int) < (own1.length : Int) := by omega
      have hi0 : (0 : Int) ≤ (i0 : Int) := by omega
      have hto := Rk.count_to (s := { s with own := own1 }) hw2 hix hv2 (n + 1)
      obtain ⟨hi2, hg2, _, _⟩ := cnIx_some (s := t) (l := cnSet own1 t (n + 1)) (j := i0) (by
        obtain ⟨hj, _, h1, _⟩ := cnIx_some hix
        have key : ∀ (l : Cn) (i m : Nat), cnIx l t = some i → cnIx (cnSet l t m) t = some i := by
          intro l
          induction l with
          | nil => intro i m h; cases h
          | cons b l ih =>
            obtain ⟨b, q⟩ := b
            intro i m h
            by_cases hb : t = b
            · simp [cnIx, hb] at h ⊢
              subst h
              simp [cnSet, cnIx]
            · simp [cnIx, hb] at h
              obtain ⟨i', h', rfl⟩ := h
              simp [cnSet, cnIx, hb, ih i' m h']
        exact key own1 _ (n + 1) hix)
      rw [cnGet_set, if_pos rfl] at hg2
      injection hg2 with hg2
      obtain ⟨g', c', hv', y20', yi', _⟩ := Ri.count (s := { s with own := cnSet own1 t (n + 1) }) hto hi2
      simp only at hv' y20' yi'
      rw [hv2] at hv'
      injection hv' with e1 e2 e3
      injection e1 with e1
      injection e1 with e1
      subst e1 e3
      rw [← hg2] at yi'
      rw [← e2] at y20'
      have HTO := Lib.hid hto
      have HTX := Lib.hid (fun wx => rDig_any (n + 1) (by omega) wx)
      obtain ⟨n1, hn1⟩ : ∃ n1, n1 = n + 1 := ⟨_, rfl⟩
      have HMR2 := HMR
      rw [← hn1] at HTO HTX yi' y20' HMR2 HSET HR
      have hS0 : (fun wz : World => wz.cell? ⟨wb, 20, none⟩ = some (.slice (some ⟨g, 0, none⟩) own1.length c2) ∧ wz.cell? ⟨g, i0, none⟩ = some (.int .i64 n)) W.drew := ⟨y20, yi⟩
      clear hw2 hv2 hix hset hto hg2 hi2 hin hn1 e2 HMR
      refine wp_region_headS 15 (fun wz : World => wz.cell? ⟨wb, 20, none⟩ = some (.slice (some ⟨g, 0, none⟩) own1.length c2) ∧ wz.cell? ⟨g, i0, none⟩ = some (.int .i64 n)) (by kernel_rfl) (by kernel_rfl) ?_
      refine WS_take (i := 0) (v := ?vp0) (by simp only [List.getElem?_toArray, List.getElem?_cons_zero]; rfl) (by decide) (by kernel_rfl) (by kernel_rfl) (by intro _ _ _ h; exact h) (Or.inl ⟨by rfl, ?hyp0⟩) hS0 ?restp0
      case hyp0 =>
        intro wx hx
        obtain ⟨s1, s2⟩ := hx
        go_simp
        try with_reducible rfl
      try simp only [Act.put, List.setIfInBounds_toArray, List.set_cons_zero, List.set_cons_succ]
      refine WS_take (i := 1) (v := ?vp1) (by simp only [List.getElem?_toArray, List.getElem?_cons_succ, List.getElem?_cons_zero]; rfl) (by decide) (by kernel_rfl) (by kernel_rfl) (by intro _ _ _ h; exact h) (Or.inl ⟨by rfl, ?hyp1⟩) hS0 ?restp1
      case hyp1 =>
        intro wx hx
        obtain ⟨s1, s2⟩ := hx
        go_simp
        try with_reducible rfl
      try simp only [Act.put, List.setIfInBounds_toArray, List.set_cons_zero, List.set_cons_succ]
      refine WS_take (i := 2) (v := ?vp2) (by simp only [List.getElem?_toArray, List.getElem?_cons_succ, List.getElem?_cons_zero]; rfl) (by decide) (by kernel_rfl) (by kernel_rfl) (by intro _ _ _ h; exact h) (Or.inl ⟨by rfl, ?hyp2⟩) hS0 ?restp2
      case hyp2 =>
        intro wx hx
        obtain ⟨s1, s2⟩ := hx
        go_simp
        try with_reducible rfl
      try simp only [Act.put, List.setIfInBounds_toArray, List.set_cons_zero, List.set_cons_succ]
      refine WS_take (i := 3) (v := ?vp3) (by simp only [List.getElem?_toArray, List.getElem?_cons_succ, List.getElem?_cons_zero]; rfl) (by decide) (by kernel_rfl) (by kernel_rfl) (by intro _ _ _ h; exact h) (Or.inl ⟨by rfl, ?hyp3⟩) hS0 ?restp3
      case hyp3 =>
        intro wx hx
        obtain ⟨s1, s2⟩ := hx
        go_simp
        try with_reducible rfl
      try simp only [Act.put, List.setIfInBounds_toArray, List.set_cons_zero, List.set_cons_succ]
      refine WS_take (i := 4) (v := ?vp4) (by simp only [List.getElem?_toArray, List.getElem?_cons_succ, List.getElem?_cons_zero]; rfl) (by decide) (by kernel_rfl) (by kernel_rfl) (by intro _ _ _ h; exact h) (Or.inl ⟨by rfl, ?hyp4⟩) hS0 ?restp4
      case hyp4 =>
        intro wx hx
        obtain ⟨s1, s2⟩ := hx
        go_simp
        try with_reducible rfl
      try simp only [Act.put, List.setIfInBounds_toArray, List.set_cons_zero, List.set_cons_succ]
      refine WS_take (i := 5) (v := ?vp5) (by simp only [List.getElem?_toArray, List.getElem?_cons_succ, List.getElem?_cons_zero]; rfl) (by decide) (by kernel_rfl) (by kernel_rfl) (by intro _ _ _ h; exact h) (Or.inl ⟨by rfl, ?hyp5⟩) hS0 ?restp5
      case hyp5 =>
        intro wx hx
        obtain ⟨s1, s2⟩ := hx
        go_simp
        try with_reducible rfl
      try simp only [Act.put, List.setIfInBounds_toArray, List.set_cons_zero, List.set_cons_succ]
      refine WS_take (i := 6) (v := ?vp6) (by simp only [List.getElem?_toArray, List.getElem?_cons_succ, List.getElem?_cons_zero]; rfl) (by decide) (by kernel_rfl) (by kernel_rfl) (by intro _ _ _ h; exact h) (Or.inl ⟨by rfl, ?hyp6⟩) hS0 ?restp6
      case hyp6 =>
        intro wx hx
        obtain ⟨s1, s2⟩ := hx
        go_simp
        try with_reducible rfl
      try simp only [Act.put, List.setIfInBounds_toArray, List.set_cons_zero, List.set_cons_succ]
      refine WS_take (i := 7) (v := ?vp7) (by simp only [List.getElem?_toArray, List.getElem?_cons_succ, List.getElem?_cons_zero]; rfl) (by decide) (by kernel_rfl) (by kernel_rfl) (by intro _ _ _ h; exact h) (Or.inl ⟨by rfl, ?hyp7⟩) hS0 ?restp7
      case hyp7 =>
        intro wx hx
        obtain ⟨s1, s2⟩ := hx
        go_simp
        try with_reducible rfl
      try simp only [Act.put, List.setIfInBounds_toArray, List.set_cons_zero, List.set_cons_succ]
      refine WS_take (i := 8) (v := ?vp8) (by simp only [List.getElem?_toArray, List.getElem?_cons_succ, List.getElem?_cons_zero]; rfl) (by decide) (by kernel_rfl) (by kernel_rfl) (by intro _ _ _ h; exact h) (Or.inl ⟨by rfl, ?hyp8⟩) hS0 ?restp8
      case hyp8 =>
        intro wx hx
        obtain ⟨s1, s2⟩ := hx
        go_simp
        try with_reducible rfl
      try simp only [Act.put, List.setIfInBounds_toArray, List.set_cons_zero, List.set_cons_succ]
      refine WS_take (i := 9) (v := ?vp9) (by simp only [List.getElem?_toArray, List.getElem?_cons_succ, List.getElem?_cons_zero]; rfl) (by decide) (by kernel_rfl) (by kernel_rfl) (by intro _ _ _ h; exact h) (Or.inl ⟨by rfl, ?hyp9⟩) hS0 ?restp9
      case hyp9 =>
        intro wx hx
        obtain ⟨s1, s2⟩ := hx
        go_simp
        try with_reducible rfl
      try simp only [Act.put, List.setIfInBounds_toArray, List.set_cons_zero, List.set_cons_succ]
      refine WS_take (i := 10) (v := ?vp10) (by simp only [List.getElem?_toArray, List.getElem?_cons_succ, List.getElem?_cons_zero]; rfl) (by decide) (by kernel_rfl) (by kernel_rfl) (by intro _ _ _ h; exact h) (Or.inl ⟨by rfl, ?hyp10⟩) hS0 ?restp10
      case hyp10 =>
        intro wx hx
        obtain ⟨s1, s2⟩ := hx
        go_simp
        try with_reducible rfl
      try simp only [Act.put, List.setIfInBounds_toArray, List.set_cons_zero, List.set_cons_succ]
      refine WS_take (i := 11) (v := ?vp11) (by simp only [List.getElem?_toArray, List.getElem?_cons_succ, List.getElem?_cons_zero]; rfl) (by decide) (by kernel_rfl) (by kernel_rfl) (by intro _ _ _ h; exact h) (Or.inl ⟨by rfl, ?hyp11⟩) hS0 ?restp11
      case hyp11 =>
        intro wx hx
        obtain ⟨s1, s2⟩ := hx
        go_simp
        try with_reducible rfl
      try simp only [Act.put, List.setIfInBounds_toArray, List.set_cons_zero, List.set_cons_succ]
      refine WS_take (i := 12) (v := ?vp12) (by simp only [List.getElem?_toArray, List.getElem?_cons_succ, List.getElem?_cons_zero]; rfl) (by decide) (by kernel_rfl) (by kernel_rfl) (by intro _ _ _ h; exact h) (Or.inl ⟨by rfl, ?hyp12⟩) hS0 ?restp12
      case hyp12 =>
        intro wx hx
        obtain ⟨s1, s2⟩ := hx
        go_simp
        try with_reducible rfl
      try simp only [Act.put, List.setIfInBounds_toArray, List.set_cons_zero, List.set_cons_succ]
      refine WS_take (i := 13) (v := ?vp13) (by simp only [List.getElem?_toArray, List.getElem?_cons_succ, List.getElem?_cons_zero]; rfl) (by decide) (by kernel_rfl) (by kernel_rfl) (by intro _ _ _ h; exact h) (Or.inl ⟨by rfl, ?hyp13⟩) hS0 ?restp13
      case hyp13 =>
        intro wx hx
        obtain ⟨s1, s2⟩ := hx
        go_simp
        try with_reducible rfl
      try simp only [Act.put, List.setIfInBounds_toArray, List.set_cons_zero, List.set_cons_succ]
      refine WS_one (i := 14) (by simp only [List.getElem?_toArray, List.getElem?_cons_succ, List.getElem?_cons_zero]; rfl) (by decide) (by kernel_rfl) (fun K hK => (if_pos (by kernel_rfl)).mpr ?_)
      go_simp
      refine (HMR2.out _).mono ?_
      rintro e w6 ⟨rfl, rfl⟩
      dsimp only
      refine hK _ _ hS0 ?_
      clear hK K hS0
      try simp only [Act.put, List.setIfInBounds_toArray, List.set_cons_zero, List.set_cons_succ]
      refine WS_done (by kernel_rfl) ?_
      simp only [List.drop_succ_cons, List.drop_zero]
      go_wp2_with fail
      refine (HTX.out _).mono ?_
      rintro e w7 ⟨rfl, b7⟩
      have HK7 : Hid (Ri B w0 w7 wb k { s with own := cnSet own1 t n1 }) := Lib.hid ⟨v2, HTO.out.below ((Below.refl _ _).drew.trans b7)⟩
      have f21 := HK7.out.cells.2 21
      have y21 := HK7.out.cells.1.2.2.2.2.2
      simp only at y21
      clear b7 y20' yi' y20 yi fi
      go_wp2_with fail
      go_end0
      refine ⟨rfl, ?_⟩
      have h9 := HK7.out.last (dig n1)
      rw [HR.out, ← HSET.out]
      exact h9
    | none =>
      have hgn : cnGet s.own t = none := by
        cases hq : cnGet s.own t with
        | none => rfl
        | some m =>
          exfalso
          have hall : ∀ a ∈ s.own.map Prod.fst, a ≠ t := by
            intro a ha e
            subst e
            have : ∀ l : Cn, cnIx l a = none → a ∉ l.map Prod.fst := by
              intro l
              induction l with
              | nil => simp
              | cons b l ih =>
                obtain ⟨b, m⟩ := b
                intro h0
                simp only [cnIx] at h0
                split at h0
                · cases h0
                · next hab =>
                  simp only [List.map_cons, List.mem_cons, not_or]
                  exact ⟨hab, ih (by simpa using h0)⟩
            exact this s.own hix ha
          rw [(cnIx_none hall).2.1] at hq
          cases hq
      have hall : ∀ a ∈ s.own.map Prod.fst, a ≠ t := by
        have : ∀ l : Cn, cnIx l t = none → ∀ a ∈ l.map Prod.fst, a ≠ t := by
          intro l
          induction l with
          | nil => simp
          | cons b l ih =>
            obtain ⟨b, m⟩ := b
            intro h0
            simp only [cnIx] at h0
            split at h0
            · cases h0
            · next hab =>
              intro a ha
              rcases List.mem_cons.1 ha with rfl | ha
              · exact fun e => hab e.symm
              · exact ih (by simpa using h0) a ha
        exact this s.own hix
      have h20 : ¬ ((20 : Int) ≤ (s.own.length : Int)) := by
        intro h
        exact HC.out ⟨hgn, by omega⟩
      have hn0 : n = 0 := by rw [HN.out, hgn]; rfl
      have HALL := Lib.hid hall
      have HN0 := Lib.hid hn0
      rw [hix] at HST
      unfold ixV at HST
      obtain ⟨i0, hi0, hz0, hz1, hz2⟩ := info_parts strInfo
      obtain ⟨i5, gi0, gz0, gz1, gz2⟩ := info_parts intInfo
      obtain ⟨A2, c2, hv2⟩ : ∃ A c, v 11 = .slice A s.own.length c := own_slice (HW.out.ow.own 11 (by omega))
      have HV2 := Lib.hid hv2
      have HO := Lib.hid (show w.ownsRow B 9 1 (.slice A1 s.own.length c1) s.own.length ((s.own.map Prod.fst).flatMap txF) by rw [← HV1.out]; exact HW.out.ow.own 10 (by omega))
      clear hix hgn hall hn0 hv2
      go_enter Tryz.func43, Tryz.ntmps43
      go_upto_region 7 with (first | (go_at_call 44; refine HST.out.mono ?_; rintro e w1 ⟨rfl, rfl⟩) | (at_builtin; refine wpList_appN (by rfl) (.tmp 32) (.tmp 34) 25 (by rfl) B 9 i0 _ 1 16 Tryz.underlying25 hi0 hz0 hz1 hz2 (by rfl) (by decide) (.slice A1 s.own.length c1) s.own.length ((s.own.map Prod.fst).flatMap txF) (txF t) rfl (by simp [txF, Value.oneCell']) (by rfl) w1.heap.size rfl (by rfl) HO.out HW.out.hB (by simp only [maxLen]; omega) (by omega) ?_; intro v' w' h1 h2 h3; obtain ⟨h4, h5⟩ := HW.out.app (i := 10) (p := 19) (by omega) rfl (d' := ⟨9, 1, s.own.length + 1, (s.own.map Prod.fst).flatMap txF ++ txF t⟩) h1 (by rw [HV1.out]; exact h2) (by rw [HV1.out]; exact h3); obtain ⟨A3, n3, c3, rfl⟩ : ∃ A n c, v' = .slice A n c := (by obtain ⟨A, c, e⟩ := own_slice h1; exact ⟨A, _, c, e⟩); have y19' : w'.cell? ⟨wb, 19, none⟩ = some (.slice A1 s.own.length c1) := (by rw [Lib.cell_of_heap h5, ← HV1.out]; rfl); have f19' := Lib.frozen_of_heap h5 19; have y20' : (w'.setCell ⟨wb, 19, none⟩ (.slice A3 n3 c3)).cell? ⟨wb, 20, none⟩ = some (.slice A2 s.own.length c2) := ((h4.cell 20).trans (by show some (upd v 10 (Value.slice A3 n3 c3) 11) = _; rw [upd_ne _ _ (by omega), HV2.out])); have y20w : w'.cell? ⟨wb, 20, none⟩ = some (.slice A2 s.own.length c2) := (by rw [Lib.cell_of_heap h5, ← HV2.out]; rfl); have HO2 := Lib.hid (show (w'.setCell ⟨wb, 19, none⟩ (.slice A3 n3 c3)).ownsRow B 3 1 (.slice A2 s.own.length c2) s.own.length ((s.own.map fun p => (p.2 : Int)).flatMap inF) by (have := h4.ow.own 11 (by omega); rw [upd_ne _ _ (by omega), upd_ne _ _ (by omega), HV2.out] at this; exact this)); have HW2 := Lib.hid h4; clear h1 h2 h3 h4 h5) | (at_builtin; refine wpList_appN (by rfl) (.tmp 42) (.tmp 43) 37 (by rfl) B 3 i5 _ 1 8 Tryz.underlying37 gi0 gz0 gz1 gz2 (by rfl) (by decide) (.slice A2 s.own.length c2) s.own.length ((s.own.map fun p => (p.2 : Int)).flatMap inF) (inF 0) rfl (by simp [inF, Value.oneCell']) (by rfl) w'.heap.size (by simp) (by rfl) HO2.out HW2.out.hB (by simp only [maxLen]; omega) (by omega) ?_; intro v'' w'' h1 h2 h3; obtain ⟨h4, h5⟩ := HW2.out.app (i := 11) (p := 20) (by omega) rfl (d' := ⟨3, 1, s.own.length + 1, (s.own.map fun p => (p.2 : Int)).flatMap inF ++ inF 0⟩) h1 (by rw [upd_ne _ _ (by omega), HV2.out]; exact h2) (by rw [upd_ne _ _ (by omega), HV2.out]; exact h3); obtain ⟨A4, n4, c4, rfl⟩ : ∃ A n c, v'' = .slice A n c := (by obtain ⟨A, c, e⟩ := own_slice h1; exact ⟨A, _, c, e⟩); have y20'' : w''.cell? ⟨wb, 20, none⟩ = some (.slice A2 s.own.length c2) := (by rw [Lib.cell_of_heap h5]; show some (upd v 10 (Value.slice A3 n3 c3) 11) = _; rw [upd_ne _ _ (by omega), HV2.out]); have f20'' := Lib.frozen_of_heap h5 20; have HW3 := Lib.hid h4; clear h1 h2 h3 h4 h5))
      have hnew := cnIx_new HALL.out (n + 1) 0
      have hcut : StepPost B w0 wb k s t n (.int .i64 (s.own.length : Int)) (w''.setCell ⟨wb, 20, none⟩ (.slice A4 n4 c4)) := by
       refine ⟨s.own.length, s.own ++ [(t, 0)], rfl, ?_, hnew.1, ⟨by simp, by simp [HN0.out]⟩, by simp, by rw [hnew.2, (cnIx_none HALL.out).2.2]⟩
       refine Rk.is (s := { s with own := s.own ++ [(t, 0)] }) HW3.out rfl (fun j hj => ?_)
       by_cases h11 : j = 11
       · subst h11
         rw [upd_at]
         simp [rdesc]
       · rw [upd_ne _ _ h11]
         by_cases h10 : j = 10
         · subst h10
           rw [upd_at]
           simp [rdesc]
         · rw [upd_ne _ _ h10]
           by_cases h12 : j < 12
           · rcases twelve_cases h12 with rfl | rfl | rfl | rfl | rfl | rfl | rfl | rfl | rfl | rfl | rfl | rfl <;> first | rfl | omega | (simp only [rdesc]; rw [blF_congr (v := v) (v' := upd (upd v 10 (Value.slice A3 n3 c3)) 11 (Value.slice A4 n4 c4)) s.blocks 12 (fun l h1 _ => by rw [upd_ne _ _ (by omega), upd_ne _ _ (by omega)])])
           · obtain ⟨m', rfl⟩ : ∃ m, j = m + 12 := ⟨j - 12, by omega⟩
             rfl
      clear y20w y20'' f20'' y19' f19' y20' y19 HW2 HW3 HO2 HO HALL HN0 hnew
      obtain ⟨i9, own1, hiv, hI, hix, ⟨hi, hin⟩, hol1, hset⟩ := hcut
      injection hiv with _ hiv
      have hiv2 : s.own.length = i9 := by omega
      subst hiv2
      obtain ⟨W, hW⟩ : ∃ W, W = w''.setCell ⟨wb, 20, none⟩ (.slice A4 n4 c4) := ⟨_, rfl⟩
      rw [← hW] at hI ⊢
      clear hiv hW
      obtain ⟨v2, hw2⟩ := hI
      obtain ⟨g, c2, hv2, y20, yi, fi⟩ := Ri.count hw2 hi
      simp only at hv2 y20 yi
      rw [hin] at yi
      have HW2 := Lib.hid hw2
      have HV2 := Lib.hid hv2
      have HIX := Lib.hid hix
      have HSET := Lib.hid hset
      have hii : (s.own.length : Int) < (own1.length : Int) := by omega
      have hi0 : (0 : Int) ≤ (s.own.length : Int) := by omega
      have hto := Rk.count_to (s := { s with own := own1 }) hw2 hix hv2 (n + 1)
      obtain ⟨hi2, hg2, _, _⟩ := cnIx_some (s := t) (l := cnSet own1 t (n + 1)) (j := s.own.length) (by
        obtain ⟨hj, _, h1, _⟩ := cnIx_some hix
        have key : ∀ (l : Cn) (i m : Nat), cnIx l t = some i → cnIx (cnSet l t m) t = some i := by
          intro l
          induction l with
          | nil => intro i m h; cases h
          | cons b l ih =>
            obtain ⟨b, q⟩ := b
            intro i m h
            by_cases hb : t = b
            · simp [cnIx, hb] at h ⊢
              subst h
              simp [cnSet, cnIx]
            · simp [cnIx, hb] at h
              obtain ⟨i', h', rfl⟩ := h
              simp [cnSet, cnIx, hb, ih i' m h']
        exact key own1 _ (n + 1) hix)
      rw [cnGet_set, if_pos rfl] at hg2
      injection hg2 with hg2
      obtain ⟨g', c', hv', y20', yi', _⟩ := Ri.count (s := { s with own := cnSet own1 t (n + 1) }) hto hi2
      simp only at hv' y20' yi'
      rw [hv2] at hv'
      injection hv' with e1 e2 e3
      injection e1 with e1
      injection e1 with e1
      subst e1 e3
      rw [← hg2] at yi'
      rw [← e2] at y20'
      have HTO := Lib.hid hto
      have HTX := Lib.hid (fun wx => rDig_any (n + 1) (by omega) wx)
      obtain ⟨n1, hn1⟩ : ∃ n1, n1 = n + 1 := ⟨_, rfl⟩
      have HMR2 := HMR
      rw [← hn1] at HTO HTX yi' y20' HMR2 HSET HR
      have hS0 : (fun wz : World => wz.cell? ⟨wb, 20, none⟩ = some (.slice (some ⟨g, 0, none⟩) own1.length c2) ∧ wz.cell? ⟨g, s.own.length, none⟩ = some (.int .i64 n)) W.drew := ⟨y20, yi⟩
      clear hw2 hv2 hix hset hto hg2 hi2 hin hn1 e2 HMR
      refine wp_region_headS 15 (fun wz : World => wz.cell? ⟨wb, 20, none⟩ = some (.slice (some ⟨g, 0, none⟩) own1.length c2) ∧ wz.cell? ⟨g, s.own.length, none⟩ = some (.int .i64 n)) (by kernel_rfl) (by kernel_rfl) ?_
      refine WS_take (i := 0) (v := ?vq0) (by simp only [List.getElem?_toArray, List.getElem?_cons_zero]; rfl) (by decide) (by kernel_rfl) (by kernel_rfl) (by intro _ _ _ h; exact h) (Or.inl ⟨by rfl, ?hyq0⟩) hS0 ?restq0
      case hyq0 =>
        intro wx hx
        obtain ⟨s1, s2⟩ := hx
        go_simp
        try with_reducible rfl
      try simp only [Act.put, List.setIfInBounds_toArray, List.set_cons_zero, List.set_cons_succ]
      refine WS_take (i := 1) (v := ?vq1) (by simp only [List.getElem?_toArray, List.getElem?_cons_succ, List.getElem?_cons_zero]; rfl) (by decide) (by kernel_rfl) (by kernel_rfl) (by intro _ _ _ h; exact h) (Or.inl ⟨by rfl, ?hyq1⟩) hS0 ?restq1
      case hyq1 =>
        intro wx hx
        obtain ⟨s1, s2⟩ := hx
        go_simp
        try with_reducible rfl
      try simp only [Act.put, List.setIfInBounds_toArray, List.set_cons_zero, List.set_cons_succ]
      refine WS_take (i := 2) (v := ?vq2) (by simp only [List.getElem?_toArray, List.getElem?_cons_succ, List.getElem?_cons_zero]; rfl) (by decide) (by kernel_rfl) (by kernel_rfl) (by intro _ _ _ h; exact h) (Or.inl ⟨by rfl, ?hyq2⟩) hS0 ?restq2
      case hyq2 =>
        intro wx hx
        obtain ⟨s1, s2⟩ := hx
        go_simp
        try with_reducible rfl
      try simp only [Act.put, List.setIfInBounds_toArray, List.set_cons_zero, List.set_cons_succ]
      refine WS_take (i := 3) (v := ?vq3) (by simp only [List.getElem?_toArray, List.getElem?_cons_succ, List.getElem?_cons_zero]; rfl) (by decide) (by kernel_rfl) (by kernel_rfl) (by intro _ _ _ h; exact h) (Or.inl ⟨by rfl, ?hyq3⟩) hS0 ?restq3
      case hyq3 =>
        intro wx hx
        obtain ⟨s1, s2⟩ := hx
        go_simp
        try with_reducible rfl
      try simp only [Act.put, List.setIfInBounds_toArray, List.set_cons_zero, List.set_cons_succ]
      refine WS_take (i := 4) (v := ?vq4) (by simp only [List.getElem?_toArray, List.getElem?_cons_succ, List.getElem?_cons_zero]; rfl) (by decide) (by kernel_rfl) (by kernel_rfl) (by intro _ _ _ h; exact h) (Or.inl ⟨by rfl, ?hyq4⟩) hS0 ?restq4
      case hyq4 =>
        intro wx hx
        obtain ⟨s1, s2⟩ := hx
        go_simp
        try with_reducible rfl
      try simp only [Act.put, List.setIfInBounds_toArray, List.set_cons_zero, List.set_cons_succ]
      refine WS_take (i := 5) (v := ?vq5) (by simp only [List.getElem?_toArray, List.getElem?_cons_succ, List.getElem?_cons_zero]; rfl) (by decide) (by kernel_rfl) (by kernel_rfl) (by intro _ _ _ h; exact h) (Or.inl ⟨by rfl, ?hyq5⟩) hS0 ?restq5
      case hyq5 =>
        intro wx hx
        obtain ⟨s1, s2⟩ := hx
        go_simp
        try with_reducible rfl
      try simp only [Act.put, List.setIfInBounds_toArray, List.set_cons_zero, List.set_cons_succ]
      refine WS_take (i := 6) (v := ?vq6) (by simp only [List.getElem?_toArray, List.getElem?_cons_succ, List.getElem?_cons_zero]; rfl) (by decide) (by kernel_rfl) (by kernel_rfl) (by intro _ _ _ h; exact h) (Or.inl ⟨by rfl, ?hyq6⟩) hS0 ?restq6
      case hyq6 =>
        intro wx hx
        obtain ⟨s1, s2⟩ := hx
        go_simp
        try with_reducible rfl
      try simp only [Act.put, List.setIfInBounds_toArray, List.set_cons_zero, List.set_cons_succ]
      refine WS_take (i := 7) (v := ?vq7) (by simp only [List.getElem?_toArray, List.getElem?_cons_succ, List.getElem?_cons_zero]; rfl) (by decide) (by kernel_rfl) (by kernel_rfl) (by intro _ _ _ h; exact h) (Or.inl ⟨by rfl, ?hyq7⟩) hS0 ?restq7
      case hyq7 =>
        intro wx hx
        obtain ⟨s1, s2⟩ := hx
        go_simp
        try with_reducible rfl
      try simp only [Act.put, List.setIfInBounds_toArray, List.set_cons_zero, List.set_cons_succ]
      refine WS_take (i := 8) (v := ?vq8) (by simp only [List.getElem?_toArray, List.getElem?_cons_succ, List.getElem?_cons_zero]; rfl) (by decide) (by kernel_rfl) (by kernel_rfl) (by intro _ _ _ h; exact h) (Or.inl ⟨by rfl, ?hyq8⟩) hS0 ?restq8
      case hyq8 =>
        intro wx hx
        obtain ⟨s1, s2⟩ := hx
        go_simp
        try with_reducible rfl
      try simp only [Act.put, List.setIfInBounds_toArray, List.set_cons_zero, List.set_cons_succ]
      refine WS_take (i := 9) (v := ?vq9) (by simp only [List.getElem?_toArray, List.getElem?_cons_succ, List.getElem?_cons_zero]; rfl) (by decide) (by kernel_rfl) (by kernel_rfl) (by intro _ _ _ h; exact h) (Or.inl ⟨by rfl, ?hyq9⟩) hS0 ?restq9
      case hyq9 =>
        intro wx hx
        obtain ⟨s1, s2⟩ := hx
        go_simp
        try with_reducible rfl
      try simp only [Act.put, List.setIfInBounds_toArray, List.set_cons_zero, List.set_cons_succ]
      refine WS_take (i := 10) (v := ?vq10) (by simp only [List.getElem?_toArray, List.getElem?_cons_succ, List.getElem?_cons_zero]; rfl) (by decide) (by kernel_rfl) (by kernel_rfl) (by intro _ _ _ h; exact h) (Or.inl ⟨by rfl, ?hyq10⟩) hS0 ?restq10
      case hyq10 =>
        intro wx hx
        obtain ⟨s1, s2⟩ := hx
        go_simp
        try with_reducible rfl
      try simp only [Act.put, List.setIfInBounds_toArray, List.set_cons_zero, List.set_cons_succ]
      refine WS_take (i := 11) (v := ?vq11) (by simp only [List.getElem?_toArray, List.getElem?_cons_succ, List.getElem?_cons_zero]; rfl) (by decide) (by kernel_rfl) (by kernel_rfl) (by intro _ _ _ h; exact h) (Or.inl ⟨by rfl, ?hyq11⟩) hS0 ?restq11
      case hyq11 =>
        intro wx hx
        obtain ⟨s1, s2⟩ := hx
        go_simp
        try with_reducible rfl
      try simp only [Act.put, List.setIfInBounds_toArray, List.set_cons_zero, List.set_cons_succ]
      refine WS_take (i := 12) (v := ?vq12) (by simp only [List.getElem?_toArray, List.getElem?_cons_succ, List.getElem?_cons_zero]; rfl) (by decide) (by kernel_rfl) (by kernel_rfl) (by intro _ _ _ h; exact h) (Or.inl ⟨by rfl, ?hyq12⟩) hS0 ?restq12
      case hyq12 =>
        intro wx hx
        obtain ⟨s1, s2⟩ := hx
        go_simp
        try with_reducible rfl
      try simp only [Act.put, List.setIfInBounds_toArray, List.set_cons_zero, List.set_cons_succ]
      refine WS_take (i := 13) (v := ?vq13) (by simp only [List.getElem?_toArray, List.getElem?_cons_succ, List.getElem?_cons_zero]; rfl) (by decide) (by kernel_rfl) (by kernel_rfl) (by intro _ _ _ h; exact h) (Or.inl ⟨by rfl, ?hyq13⟩) hS0 ?restq13
      case hyq13 =>
        intro wx hx
        obtain ⟨s1, s2⟩ := hx
        go_simp
        try with_reducible rfl
      try simp only [Act.put, List.setIfInBounds_toArray, List.set_cons_zero, List.set_cons_succ]
      refine WS_one (i := 14) (by simp only [List.getElem?_toArray, List.getElem?_cons_succ, List.getElem?_cons_zero]; rfl) (by decide) (by kernel_rfl) (fun K hK => (if_pos (by kernel_rfl)).mpr ?_)
      go_simp
      refine (HMR2.out _).mono ?_
      rintro e w6 ⟨rfl, rfl⟩
      dsimp only
      refine hK _ _ hS0 ?_
      clear hK K hS0
      try simp only [Act.put, List.setIfInBounds_toArray, List.set_cons_zero, List.set_cons_succ]
      refine WS_done (by kernel_rfl) ?_
      simp only [List.drop_succ_cons, List.drop_zero]
      go_wp2_with fail
      refine (HTX.out _).mono ?_
      rintro e w7 ⟨rfl, b7⟩
      have HK7 : Hid (Ri B w0 w7 wb k { s with own := cnSet own1 t n1 }) := Lib.hid ⟨v2, HTO.out.below ((Below.refl _ _).drew.trans b7)⟩
      have f21 := HK7.out.cells.2 21
      have y21 := HK7.out.cells.1.2.2.2.2.2
      simp only at y21
      clear b7 y20' yi' y20 yi fi
      go_wp2_with fail
      go_end0
      refine ⟨rfl, ?_⟩
      have h9 := HK7.out.last (dig n1)
      rw [HR.out, ← HSET.out]
      exact h9
end
end Go.Proofs.YtjmmfihmamcopaaGreatDoor
namespace Go.Proofs.YtjmmfihmamcopaaGreatDoor
open Go.RowKit Tx Nb

/-- What the reference's work was given. -/
structure REnv (B : Nat) (w0 : World) (k : RCst) (vb vi : Value) (E : Env) : Prop where
  lb : RowC 3 labF w0 B k.oL E.labels
  hd : RowC 4 hdF w0 B k.oH E.heads
  bb : RowC 3 ciF w0 B vb E.bbl
  ind : RowC 1 txF w0 B vi E.ind
  ok : E.Ok
theorem Ri.hB {B wb : Nat} {w0 w : World} {k : RCst} {s : St} (h : Ri B w0 w wb k s) : B ≤ w.heap.size := by
  obtain ⟨v, hw⟩ := h
  exact hw.hB
theorem dig_cut (n : Int) : ∃ m : Nat, m ≤ 999999 ∧ min (max n 0) 999999 = (m : Int) ∧ dig n = dig (m : Int) := by
  refine ⟨(min (max n 0) 999999).toNat, by omega, by omega, ?_⟩
  unfold dig
  congr 1
  omega
section
variable {B wb : Nat} {w0 w : World} {k : RCst} {s : St}
set_option maxRecDepth 100000 in
set_option maxHeartbeats 16000000 in
theorem rrefer_any {E : Env} {vb vi : Value} (h : Ri B w0 w wb k s) (hi : Inv s) (T : Nat) (hT : T ≤ 800000) (hd : Bd s T) (hE : REnv B w0 k vb vi E) (x : It) :
    Calls Tryz.prog 39 #[.pointer (some ⟨wb, 0, none⟩), .int .i64 x.kind, vs x.s] w fun e' w' => e' = .returned (.tuple #[]) ∧ Ri B w0 w' wb k (Nb.refer E s x) := by
  have HK := Lib.hid h
  obtain ⟨y10, y11, y12, y13⟩ := h.env
  have HFD := Lib.hid (rfind_any k.oL k.oH k.oC k.oB E.labels x.s (below_row hE.lb h.bel h.hB) (by have := hE.ok.lb; omega))
  have HI := Lib.hid hi
  have HBD := Lib.hid hd
  have HOK := Lib.hid hE.ok
  clear h hi hd hE
  cases hf : find E.labels x.s with
  | none =>
    have hfv : foundV E.labels x.s = .tuple #[.agg #[vs [], vs [], .int .i64 0], .bool false] := by unfold foundV; rw [hf]
    rw [hfv] at HFD
    have HR : Hid (Nb.refer E s x = Nb.note (Nb.say s [63, 63]) 13 x.s) := Lib.hid (by unfold Nb.refer; rw [hf])
    have HSB := Lib.hid ((HBD.out.say HI.out [63, 63] 10 (by simp)))
    clear hf hfv
    go_enter Tryz.func39, Tryz.ntmps39
    go_wp2_with fail
    refine HFD.out.mono ?_
    rintro e w1 ⟨rfl, b1⟩
    have HB1 := Lib.hid b1
    clear b1 y10 y11 y12 y13
    go_wp2_with fail
    refine (rsay_any (HK.out.below (HB1.out.alloc HB1.out.size _)) HI.out T (by omega) HBD.out [63, 63] (by simp)).mono ?_
    rintro e w2 ⟨rfl, H2⟩
    have HK2 := Lib.hid H2
    clear H2
    go_wp2_with fail
    refine (rnote_any HK2.out 13 x.s (by have := HSB.out.nt; omega)).mono ?_
    rintro e w3 ⟨rfl, H3⟩
    have HK3 := Lib.hid H3
    clear H3
    go_wp2_with fail
    first | (refine bodyPost_ret (results_none rfl _ _ _) rfl ?_) | go_end0
    exact ⟨rfl, by rw [HR.out]; exact HK3.out⟩
  | some l =>
    have hfv : foundV E.labels x.s = .tuple #[.agg #[vs l.key, vs l.num, .int .i64 l.page], .bool true] := by unfold foundV; rw [hf]
    rw [hfv] at HFD
    have hnum := HOK.out.lbt l (List.mem_of_find?_eq_some hf)
    by_cases h7 : x.kind = 7
    · have h7b : (x.kind == 7) = true := by simp [h7]
      have HR : Hid (Nb.refer E s x = Nb.say s l.num) := Lib.hid (by unfold Nb.refer; rw [hf]; simp only; rw [if_pos h7])
      clear hf hfv h7
      go_enter Tryz.func39, Tryz.ntmps39
      go_wp2_with fail
      refine HFD.out.mono ?_
      rintro e w1 ⟨rfl, b1⟩
      have HB1 := Lib.hid b1
      clear b1 y10 y11 y12 y13
      go_wp2_with fail
      refine (rsay_any (HK.out.below (HB1.out.alloc HB1.out.size _)) HI.out T (by omega) HBD.out l.num (by omega)).mono ?_
      rintro e w2 ⟨rfl, H2⟩
      have HK2 := Lib.hid H2
      clear H2
      go_wp2_with fail
      first | (refine bodyPost_ret (results_none rfl _ _ _) rfl ?_) | go_end0
      exact ⟨rfl, by rw [HR.out]; exact HK2.out⟩
    · have h7b : (x.kind == 7) = false := by simp [h7]
      obtain ⟨m, hm1, hm2, hm3⟩ := dig_cut l.page
      have hdl := dig_len6 (m : Int)
      have HR : Hid (Nb.refer E s x = Nb.say s (dig (m : Int))) := Lib.hid (by unfold Nb.refer; rw [hf]; simp only; rw [if_neg h7, hm3])
      have HCT := Lib.hid (fun wx => rCut_any l.page wx)
      rw [hm2] at HCT
      have HDG := Lib.hid (fun wx => rDig_any m hm1 wx)
      clear hf hfv h7 hm2 hm3
      go_enter Tryz.func39, Tryz.ntmps39
      go_wp2_with fail
      refine HFD.out.mono ?_
      rintro e w1 ⟨rfl, b1⟩
      have HB1 := Lib.hid b1
      clear b1 y10 y11 y12 y13
      go_wp2_with fail
      refine (HCT.out _).mono ?_
      rintro e w2 ⟨rfl, rfl⟩
      go_wp2_with fail
      refine (HDG.out _).mono ?_
      rintro e w3 ⟨rfl, b3⟩
      have HB3 := Lib.hid (below_via (HB1.out.alloc HB1.out.size (.cells #[vs l.key, vs l.num, .int .i64 l.page] 85)) b3)
      clear b3
      go_wp2_with fail
      refine (rsay_any (HK.out.below HB3.out) HI.out T (by omega) HBD.out (dig (m : Int)) (by omega)).mono ?_
      rintro e w4 ⟨rfl, H2⟩
      have HK2 := Lib.hid H2
      clear H2
      go_wp2_with fail
      first | (refine bodyPost_ret (results_none rfl _ _ _) rfl ?_) | go_end0
      exact ⟨rfl, by rw [HR.out]; exact HK2.out⟩
namespace Nb
/-- The first of the references from place j on that has a key. -/
theorem ciAt_hit {l : List Ci} {k : Bs} {j : Nat} (hj : j < l.length) (h : l[j].key = k) : ciAt (l.drop j) k = some l[j] := by
  unfold ciAt
  rw [List.drop_eq_getElem_cons hj, List.find?_cons_of_pos (by simp [h])]
theorem ciAt_miss {l : List Ci} {k : Bs} {j : Nat} (hj : j < l.length) (h : l[j].key ≠ k) : ciAt (l.drop j) k = ciAt (l.drop (j + 1)) k := by
  unfold ciAt
  rw [List.drop_eq_getElem_cons hj, List.find?_cons_of_neg (by simp [h])]
end Nb
/-- The label that is told so far, and whether there is one. -/
def ciL (o : Option Ci) : Bs := match o with | some c => c.label | none => [63]
theorem citeS_eq (E : Env) (s : St) (t : Bs) : citeS E s t = (if (ciAt E.bbl t).isSome then Nb.say s (91 :: (ciL (ciAt E.bbl t) ++ [93])) else Nb.note (Nb.say s (91 :: (ciL (ciAt E.bbl t) ++ [93]))) 14 t) := by
  unfold citeS
  cases ciAt E.bbl t <;> rfl
set_option maxRecDepth 100000 in
set_option maxHeartbeats 16000000 in
theorem rcite_any {E : Env} {vb vi : Value} (h : Ri B w0 w wb k s) (hi : Inv s) (T : Nat) (hT : T ≤ 800000) (hd : Bd s T) (hE : REnv B w0 k vb vi E) (t : Bs) :
    Calls Tryz.prog 40 #[.pointer (some ⟨wb, 0, none⟩), vs t, vb] w fun e' w' => e' = .returned (.tuple #[]) ∧ Ri B w0 w' wb k (Nb.cite E s t) := by
  have HK := Lib.hid h
  have hrow := below_row hE.bb h.bel h.hB
  obtain ⟨A1, c1, rfl, _, _, hcx⟩ := hrow.shape
  have HCX := Lib.hid hcx
  have HI := Lib.hid hi
  have HBD := Lib.hid hd
  have HOK := Lib.hid hE.ok
  have hbl := hE.ok.bb
  have x1 : IntKind.i64.wrap ((E.bbl.length : Int) - 1) = (E.bbl.length : Int) - 1 := IntWalk.i64_in _ (by omega)
  have HCS := Lib.hid (citeS_bd hd hi hE.ok t)
  clear h hi hd hE hrow hcx
  go_enter Tryz.func40, Tryz.ntmps40
  go_upto_block 0 with fail
  go_cut [6, 7] (fun lv bv wx => lv = vs (ciL (ciAt E.bbl t)) ∧ bv = .bool (ciAt E.bbl t).isSome ∧ wx = w)
  case first =>
    go_wp2_with fail
    go_loopw [6, 7, 8] (fun lv bv ix wr => ∃ j : Nat, j ≤ E.bbl.length ∧ ix = .int .i64 ((j : Int) - 1) ∧ lv = vs (ciL (ciAt (E.bbl.drop j) t)) ∧ bv = .bool (ciAt (E.bbl.drop j) t).isSome ∧ wr = w) (fun _ _ ix _ => (RowKit.intOf ix + 1).toNat)
    case atStart => exact ⟨E.bbl.length, Nat.le_refl _, rfl, by rw [List.drop_length]; rfl, by rw [List.drop_length]; rfl, rfl⟩
    case round =>
      obtain ⟨j, hj, rfl, rfl, rfl, hwr⟩ := hrel
      subst hwr
      cases j with
      | zero =>
        have h0 : ¬ ((0 : Int) ≤ ((0 : Nat) : Int) - 1) := by omega
        simp only [List.drop_zero]
        go_wp2_with fail
        go_meet
        exact ⟨rfl, rfl, rfl⟩
      | succ i =>
        have hil : i < E.bbl.length := by omega
        have e1 : ((i + 1 : Nat) : Int) - 1 = (i : Int) := by omega
        have hi0 : (0 : Int) ≤ (i : Int) := by omega
        have hi1 : (i : Int) < (E.bbl.length : Int) := by omega
        have x2 : IntKind.i64.wrap ((i : Int) - 1) = (i : Int) - 1 := IntWalk.i64_in _ (by omega)
        obtain ⟨b, off, rfl, _, hcc⟩ := HCX.out (by intro e; rw [e] at hil; simp at hil)
        have c0 : wr.cell? ⟨b, off + i * 3, none⟩ = some (vs E.bbl[i].key) := hcc i hil 0 _ rfl
        have cc1 : wr.cell? ⟨b, off + i * 3 + 1, none⟩ = some (vs E.bbl[i].label) := hcc i hil 1 _ rfl
        rw [e1]
        by_cases hk : E.bbl[i].key = t
        · have he : ((bs E.bbl[i].key).toList == (bs t).toList) = true := by rw [bs_beq]; simp [hk]
          have HH := Lib.hid (ciAt_hit hil hk)
          generalize E.bbl[i] = x at *
          generalize ciAt (E.bbl.drop (i + 1)) t = o at *
          clear hcc hk hil
          go_wp2_with fail
          go_roundw
          case rel => exact ⟨i, by omega, rfl, by rw [HH.out]; rfl, by rw [HH.out]; rfl, trivial⟩
          case measure => simp [RowKit.intOf]
        · have he : ((bs E.bbl[i].key).toList == (bs t).toList) = false := by rw [bs_beq]; simp [hk]
          have HH := Lib.hid (ciAt_miss hil hk)
          generalize E.bbl[i] = x at *
          generalize ciAt (E.bbl.drop (i + 1)) t = o at *
          clear hcc hk hil
          go_wp2_with fail
          go_roundw
          case rel => exact ⟨i, by omega, rfl, by rw [HH.out], by rw [HH.out], trivial⟩
          case measure => simp [RowKit.intOf]
  case rest =>
    obtain ⟨rfl, rfl, hwc⟩ := hcut
    obtain ⟨W, hW⟩ : ∃ W, W = wc := ⟨_, rfl⟩
    subst hW
    subst hwc
    have HCE := Lib.hid (citeS_eq E s t)
    have hll : (ciL (ciAt E.bbl t)).length ≤ 100 := by
      cases hc : ciAt E.bbl t with
      | none => simp [ciL]
      | some c => exact (HOK.out.bbt c (List.mem_of_find?_eq_some hc)).1
    generalize ciL (ciAt E.bbl t) = L at *
    generalize (ciAt E.bbl t).isSome = qq at *
    have o1 : (⟨#[91]⟩ : ByteArray) ++ bs L = bs (91 :: L) := by show bs [91] ++ _ = _; rw [bs_append]; rfl
    have o2 : bs (91 :: L) ++ (⟨#[93]⟩ : ByteArray) = bs (91 :: (L ++ [93])) := by show _ ++ bs [93] = _; rw [bs_append]; rfl
    have l1 : (bs L).size = L.length := bs_size _
    have l2 : (bs (91 :: L)).size = L.length + 1 := by rw [bs_size]; rfl
    have g1 : ¬ (9223372036854775807 < 1 + L.length) := by omega
    have g2 : ¬ (9223372036854775807 < L.length + 1 + 1) := by omega
    go_upto_if 34 with (go_at_call 35; refine (rsay_any HK.out HI.out T (by omega) HBD.out (91 :: (L ++ [93])) (by simp; omega)).mono ?_; rintro e w2 ⟨rfl, H2⟩; have HK2 := Lib.hid H2; clear H2)
    have hsay := (HBD.out.say HI.out (91 :: (L ++ [93])) 110 (by simp; omega))
    go_cut [] from 33 to 38 (fun wx => Ri B w0 wx wb k (citeS E s t))
    case first =>
      cases qq with
      | true =>
        rw [if_pos rfl] at HCE
        go_wp2_with fail
        go_meet
        rw [HCE.out]
        exact HK2.out
      | false =>
        rw [if_neg (by simp)] at HCE
        go_wp2_with fail
        refine (rnote_any HK2.out 14 t (by have := hsay.nt; omega)).mono ?_
        rintro e w3 ⟨rfl, H3⟩
        have HK3 := Lib.hid H3
        clear H3
        go_wp2_with fail
        go_meet
        rw [HCE.out]
        exact HK3.out
    case rest =>
      obtain ⟨v6, hw6⟩ := hcut
      obtain ⟨h1, h2⟩ := HCS.out
      have HON := Lib.hid (ronce_any hw6 3 (by omega) (citeS E s t).cites (fun l => { citeS E s t with cites := l }) rfl (fun _ => rfl) (fun _ => rfl) (fun _ _ => rfl) (fun l v j h1 h2 h3 => by rcases twelve_cases h3 with rfl | rfl | rfl | rfl | rfl | rfl | rfl | rfl | rfl | rfl | rfl | rfl <;> first | rfl | omega) (by have := h1.nt; omega) (by have := h1.ci; omega) t 100 (by omega))
      have y3 : wc.cell? ⟨wb, 3, none⟩ = some (v6 3) := hw6.cell 3
      clear hw6 h1 h2 HCE
      go_wp2_with fail
      refine HON.out.mono ?_
      rintro e w7 ⟨A7, n7, c7, rfl, q1, q2, q3, q4⟩
      have HQ := Lib.hid q3
      clear q3 q4 y3
      go_wp2_with fail
      go_end0
      exact ⟨rfl, by rw [cite_eq]; exact HQ.out⟩
end
end Go.Proofs.YtjmmfihmamcopaaGreatDoor
namespace Go.Proofs.YtjmmfihmamcopaaGreatDoor
open Go.RowKit Tx Nb

/-- A round's append to an own row, and what is left of the world. -/
theorem app_round {base : Nat} {w0 wx wd w' : World} {v v' : Value} {l : List Bs} {u : Bs} (hb0 : Below base w0 wx) (hw : base ≤ wx.heap.size) (hd : Below wx.heap.size wx wd) (ho : OwnC 9 1 txF base wd v l)
    (h1 : w'.ownsRow base 9 1 v' (l.length + 1) (l.flatMap txF ++ txF u)) (h2 : wd.grownBy w' v.ownBlock) : OwnC 9 1 txF base w' v' (l ++ [u]) ∧ Below base w0 w' :=
  ⟨by simpa [OwnC] using h1, (hb0.trans (hd.mono hw)).grown h2 (Nat.le_trans hw hd.size) (fun k hk => (ho.lt k hk).1)⟩
set_option maxRecDepth 100000 in
set_option maxHeartbeats 16000000 in
theorem rrefs_any {w : World} (vb : Value) (l : List Ci) (hr : RowC 3 ciF w w.heap.size vb l) (hl : l.length ≤ 300) (hlt : ∀ x ∈ l, x.label.length ≤ 100 ∧ x.text.length ≤ 100) :
    Calls Tryz.prog 47 #[vb] w fun e w' => ∃ v, e = .returned v ∧ OwnC 9 1 txF w.heap.size w' v (l.map ciLine) ∧ Below w.heap.size w w' := by
  obtain ⟨A1, c1, rfl, _, _, hcx⟩ := hr.shape
  have HCX := Lib.hid hcx
  have HLT := Lib.hid hlt
  clear hr hcx hlt
  go_enter Tryz.func47, Tryz.ntmps47
  go_wp2_with fail
  go_loopw [3, 4] (fun v i wr => ∃ j : Nat, j ≤ l.length ∧ i = .int .i64 j ∧ OwnC 9 1 txF w.heap.size wr v ((l.map ciLine).take j) ∧ Below w.heap.size w wr) (fun _ i _ => l.length - (RowKit.intOf i).toNat)
  case atStart =>
    refine ⟨0, Nat.zero_le _, rfl, ?_, (Below.refl _ _).alloc (Nat.le_refl _) _⟩
    exact OwnC.made _ _ _ _ _ (Nat.le_refl _)
  case round =>
    obtain ⟨j, hj, rfl, ho, hbel⟩ := hrel
    by_cases hjt : j < l.length
    · have hi : (j : Int) < (l.length : Int) := by omega
      have hi0 : (0 : Int) ≤ (j : Int) := by omega
      obtain ⟨b, off, rfl, hbl, hc⟩ := HCX.out (by intro e; rw [e] at hjt; simp at hjt)
      have c1' : wr.cell? ⟨b, off + j * 3 + 1, none⟩ = some (vs l[j].label) := (hbel.cell (p := ⟨b, off + j * 3 + 1, none⟩) hbl).trans (hc j hjt 1 _ rfl)
      have c2' : wr.cell? ⟨b, off + j * 3 + 2, none⟩ = some (vs l[j].text) := (hbel.cell (p := ⟨b, off + j * 3 + 2, none⟩) hbl).trans (hc j hjt 2 _ rfl)
      obtain ⟨hl1, hl2⟩ := HLT.out l[j] (List.getElem_mem hjt)
      have HT : Hid ((l.map ciLine).take (j + 1) = (l.map ciLine).take j ++ [ciLine l[j]]) := Lib.hid (by rw [List.take_succ_eq_append_getElem (by simpa using hjt), List.getElem_map])
      have hlen : ((l.map ciLine).take j).length ≤ 300 := by simp; omega
      generalize l[j] = ci at *
      have o1 : (⟨#[91]⟩ : ByteArray) ++ bs ci.label = bs (91 :: ci.label) := by show bs [91] ++ _ = _; rw [bs_append]; rfl
      have o2 : bs (91 :: ci.label) ++ (⟨#[93, 32]⟩ : ByteArray) = bs (91 :: (ci.label ++ [93, 32])) := by show _ ++ bs [93, 32] = _; rw [bs_append]; rfl
      have o3 : bs (91 :: (ci.label ++ [93, 32])) ++ bs ci.text = bs (ciLine ci) := by rw [bs_append]; simp [ciLine]
      have l1 : (bs ci.label).size = ci.label.length := bs_size _
      have l2 : (bs (91 :: ci.label)).size = ci.label.length + 1 := by rw [bs_size]; rfl
      have l3 : (bs (91 :: (ci.label ++ [93, 32]))).size = ci.label.length + 3 := by rw [bs_size]; simp
      have l4 : (bs ci.text).size = ci.text.length := bs_size _
      have g1 : ¬ (9223372036854775807 < 1 + ci.label.length) := by omega
      have g2 : ¬ (9223372036854775807 < ci.label.length + 1 + 2) := by omega
      have g3 : ¬ (9223372036854775807 < ci.label.length + 3 + ci.text.length) := by omega
      obtain ⟨i0, hi0', hz0, hz1, hz2⟩ := info_parts strInfo
      have hbd : Below wr.heap.size wr (wr.drew.alloc (.cells #[vs (ciLine ci)] 9)) := ((Below.refl wr.heap.size wr).drew).alloc (Nat.le_refl _) _
      have HBD := Lib.hid hbd
      have HD := Lib.hid (heap_alloc_new wr.drew (.cells #[vs (ciLine ci)] 9))
      have hS0 : (fun wz : World => wz.cell? ⟨b, off + j * 3 + 1, none⟩ = some (vs ci.label) ∧ wz.cell? ⟨b, off + j * 3 + 2, none⟩ = some (vs ci.text)) wr.drew := ⟨c1', c2'⟩
      have hS1 : (fun wz : World => wz.cell? ⟨b, off + j * 3 + 1, none⟩ = some (vs ci.label) ∧ wz.cell? ⟨b, off + j * 3 + 2, none⟩ = some (vs ci.text)) (wr.drew.alloc (.cells #[vs (ciLine ci)] 9)) := ⟨(hbd.cell (p := ⟨b, off + j * 3 + 1, none⟩) (Nat.lt_of_lt_of_le hbl hbel.size)).trans c1', (hbd.cell (p := ⟨b, off + j * 3 + 2, none⟩) (Nat.lt_of_lt_of_le hbl hbel.size)).trans c2'⟩
      have HOW := Lib.hid (ho.below hbd)
      have HBEL := Lib.hid hbel
      have HSZ : Hid (w.heap.size ≤ (wr.drew.alloc (.cells #[vs (ciLine ci)] 9)).heap.size) := Lib.hid (Nat.le_trans hbel.size hbd.size)
      obtain ⟨A2, n2, c2, rfl⟩ : ∃ A n c, u3 = .slice A n c := by obtain ⟨A, c, e⟩ := own_slice ho; exact ⟨A, _, c, e⟩
      clear hc hjt hbd ho hbel
      go_upto_region 5 with fail
      refine wp_region_headS 16 (fun wz : World => wz.cell? ⟨b, off + j * 3 + 1, none⟩ = some (vs ci.label) ∧ wz.cell? ⟨b, off + j * 3 + 2, none⟩ = some (vs ci.text)) (by kernel_rfl) (by kernel_rfl) ?_
      refine WS_take (i := 0) (v := ?va0) (by simp only [List.getElem?_toArray, List.getElem?_cons_zero]; rfl) (by decide) (by kernel_rfl) (by kernel_rfl) (by intro _ _ _ h; exact h) (Or.inl ⟨by rfl, ?hya0⟩) hS0 ?resta0
      case hya0 =>
        intro wx hx
        obtain ⟨s1, s2⟩ := hx
        go_simp
        try with_reducible rfl
      try simp only [Act.put, List.setIfInBounds_toArray, List.set_cons_zero, List.set_cons_succ]
      refine WS_take (i := 1) (v := ?va1) (by simp only [List.getElem?_toArray, List.getElem?_cons_succ, List.getElem?_cons_zero]; rfl) (by decide) (by kernel_rfl) (by kernel_rfl) (by intro _ _ _ h; exact h) (Or.inl ⟨by rfl, ?hya1⟩) hS0 ?resta1
      case hya1 =>
        intro wx hx
        obtain ⟨s1, s2⟩ := hx
        go_simp
        try with_reducible rfl
      try simp only [Act.put, List.setIfInBounds_toArray, List.set_cons_zero, List.set_cons_succ]
      refine WS_take (i := 2) (v := ?va2) (by simp only [List.getElem?_toArray, List.getElem?_cons_succ, List.getElem?_cons_zero]; rfl) (by decide) (by kernel_rfl) (by kernel_rfl) (by intro _ _ _ h; exact h) (Or.inl ⟨by rfl, ?hya2⟩) hS0 ?resta2
      case hya2 =>
        intro wx hx
        obtain ⟨s1, s2⟩ := hx
        go_simp
        try with_reducible rfl
      try simp only [Act.put, List.setIfInBounds_toArray, List.set_cons_zero, List.set_cons_succ]
      refine WS_take (i := 3) (v := ?va3) (by simp only [List.getElem?_toArray, List.getElem?_cons_succ, List.getElem?_cons_zero]; rfl) (by decide) (by kernel_rfl) (by kernel_rfl) (by intro _ _ _ h; exact h) (Or.inl ⟨by rfl, ?hya3⟩) hS0 ?resta3
      case hya3 =>
        intro wx hx
        obtain ⟨s1, s2⟩ := hx
        go_simp
        try with_reducible rfl
      try simp only [Act.put, List.setIfInBounds_toArray, List.set_cons_zero, List.set_cons_succ]
      refine WS_take (i := 4) (v := ?va4) (by simp only [List.getElem?_toArray, List.getElem?_cons_succ, List.getElem?_cons_zero]; rfl) (by decide) (by kernel_rfl) (by kernel_rfl) (by intro _ _ _ h; exact h) (Or.inl ⟨by rfl, ?hya4⟩) hS0 ?resta4
      case hya4 =>
        intro wx hx
        obtain ⟨s1, s2⟩ := hx
        go_simp
        try with_reducible rfl
      try simp only [Act.put, List.setIfInBounds_toArray, List.set_cons_zero, List.set_cons_succ]
      refine WS_take (i := 5) (v := ?va5) (by simp only [List.getElem?_toArray, List.getElem?_cons_succ, List.getElem?_cons_zero]; rfl) (by decide) (by kernel_rfl) (by kernel_rfl) (by intro _ _ _ h; exact h) (Or.inl ⟨by rfl, ?hya5⟩) hS0 ?resta5
      case hya5 =>
        intro wx hx
        obtain ⟨s1, s2⟩ := hx
        go_simp
        try with_reducible rfl
      try simp only [Act.put, List.setIfInBounds_toArray, List.set_cons_zero, List.set_cons_succ]
      refine WS_take (i := 6) (v := ?va6) (by simp only [List.getElem?_toArray, List.getElem?_cons_succ, List.getElem?_cons_zero]; rfl) (by decide) (by kernel_rfl) (by kernel_rfl) (by intro _ _ _ h; exact h) (Or.inl ⟨by rfl, ?hya6⟩) hS0 ?resta6
      case hya6 =>
        intro wx hx
        obtain ⟨s1, s2⟩ := hx
        go_simp
        try with_reducible rfl
      try simp only [Act.put, List.setIfInBounds_toArray, List.set_cons_zero, List.set_cons_succ]
      refine WS_take (i := 7) (v := ?va7) (by simp only [List.getElem?_toArray, List.getElem?_cons_succ, List.getElem?_cons_zero]; rfl) (by decide) (by kernel_rfl) (by kernel_rfl) (by intro _ _ _ h; exact h) (Or.inl ⟨by rfl, ?hya7⟩) hS0 ?resta7
      case hya7 =>
        intro wx hx
        obtain ⟨s1, s2⟩ := hx
        go_simp
        try with_reducible rfl
      try simp only [Act.put, List.setIfInBounds_toArray, List.set_cons_zero, List.set_cons_succ]
      refine WS_take (i := 8) (v := ?va8) (by simp only [List.getElem?_toArray, List.getElem?_cons_succ, List.getElem?_cons_zero]; rfl) (by decide) (by kernel_rfl) (by kernel_rfl) (by intro _ _ _ h; exact h) (Or.inl ⟨by rfl, ?hya8⟩) hS0 ?resta8
      case hya8 =>
        intro wx hx
        obtain ⟨s1, s2⟩ := hx
        go_simp
        try with_reducible rfl
      try simp only [Act.put, List.setIfInBounds_toArray, List.set_cons_zero, List.set_cons_succ]
      refine WS_take (i := 9) (v := ?va9) (by simp only [List.getElem?_toArray, List.getElem?_cons_succ, List.getElem?_cons_zero]; rfl) (by decide) (by kernel_rfl) (by kernel_rfl) (by intro _ _ _ h; exact h) (Or.inl ⟨by rfl, ?hya9⟩) hS0 ?resta9
      case hya9 =>
        intro wx hx
        obtain ⟨s1, s2⟩ := hx
        go_simp
        try with_reducible rfl
      try simp only [Act.put, List.setIfInBounds_toArray, List.set_cons_zero, List.set_cons_succ]
      refine WS_take (i := 10) (v := ?va10) (by simp only [List.getElem?_toArray, List.getElem?_cons_succ, List.getElem?_cons_zero]; rfl) (by decide) (by kernel_rfl) (by kernel_rfl) (by intro _ _ _ h; exact h) (Or.inl ⟨by rfl, ?hya10⟩) hS0 ?resta10
      case hya10 =>
        intro wx hx
        obtain ⟨s1, s2⟩ := hx
        go_simp
        try with_reducible rfl
      try simp only [Act.put, List.setIfInBounds_toArray, List.set_cons_zero, List.set_cons_succ]
      refine WS_take (i := 11) (v := ?va11) (by simp only [List.getElem?_toArray, List.getElem?_cons_succ, List.getElem?_cons_zero]; rfl) (by decide) (by kernel_rfl) (by kernel_rfl) (by intro _ _ _ h; exact h) (Or.inl ⟨by rfl, ?hya11⟩) hS0 ?resta11
      case hya11 =>
        intro wx hx
        obtain ⟨s1, s2⟩ := hx
        go_simp
        try with_reducible rfl
      try simp only [Act.put, List.setIfInBounds_toArray, List.set_cons_zero, List.set_cons_succ]
      refine WS_take (i := 12) (v := ?va12) (by simp only [List.getElem?_toArray, List.getElem?_cons_succ, List.getElem?_cons_zero]; rfl) (by decide) (by kernel_rfl) (by kernel_rfl) (by intro _ _ _ h; exact h) (Or.inl ⟨by rfl, ?hya12⟩) hS0 ?resta12
      case hya12 =>
        intro wx hx
        obtain ⟨s1, s2⟩ := hx
        go_simp
        try with_reducible rfl
      try simp only [Act.put, List.setIfInBounds_toArray, List.set_cons_zero, List.set_cons_succ]
      refine WS_take (i := 13) (v := ?va13) (by simp only [List.getElem?_toArray, List.getElem?_cons_succ, List.getElem?_cons_zero]; rfl) (by decide) (by kernel_rfl) (by kernel_rfl) (by intro _ _ _ h; exact h) (Or.inl ⟨by rfl, ?hya13⟩) hS0 ?resta13
      case hya13 =>
        intro wx hx
        obtain ⟨s1, s2⟩ := hx
        go_simp
        try with_reducible rfl
      try simp only [Act.put, List.setIfInBounds_toArray, List.set_cons_zero, List.set_cons_succ]
      refine WS_one (i := 14) (by simp only [List.getElem?_toArray, List.getElem?_cons_succ, List.getElem?_cons_zero]; rfl) (by decide) (by kernel_rfl) (fun K hK => (if_pos (by kernel_rfl)).mpr ?_)
      go_simp
      refine hK _ _ hS1 ?_
      clear hK K
      try simp only [Act.put, List.setIfInBounds_toArray, List.set_cons_zero, List.set_cons_succ]
      refine WS_one (i := 15) (by simp only [List.getElem?_toArray, List.getElem?_cons_succ, List.getElem?_cons_zero]; rfl) (by decide) (by kernel_rfl) (fun K hK => step_appB (by rfl) (.tmp 12) (.tmp 26) 25 (by rfl) w.heap.size 9 i0 _ 1 16 Tryz.underlying25 hi0' hz0 hz1 hz2 (by rfl) (by decide) (.slice A2 n2 c2) ((l.map ciLine).take j).length (((l.map ciLine).take j).flatMap txF) (txF (ciLine ci)) rfl (by simp [txF, Value.oneCell']) (by rfl) wr.drew.heap.size (by rfl) HD.out HOW.out HSZ.out (by simp only [maxLen]; omega) (by omega) ?_)
      intro v' w' h1 h2 h3
      obtain ⟨q1, q2⟩ := app_round HBEL.out HBEL.out.size HBD.out HOW.out h1 h2
      have HQ := Lib.hid (And.intro q1 q2)
      have hS2 : (fun wz : World => wz.cell? ⟨b, off + j * 3 + 1, none⟩ = some (vs ci.label) ∧ wz.cell? ⟨b, off + j * 3 + 2, none⟩ = some (vs ci.text)) w' := ⟨(q2.cell (p := ⟨b, off + j * 3 + 1, none⟩) hbl).trans ((HBEL.out.cell (p := ⟨b, off + j * 3 + 1, none⟩) hbl).symm.trans c1'), (q2.cell (p := ⟨b, off + j * 3 + 2, none⟩) hbl).trans ((HBEL.out.cell (p := ⟨b, off + j * 3 + 2, none⟩) hbl).symm.trans c2')⟩
      refine hK _ _ hS2 ?_
      clear hK K h1 h2 h3 q1 q2 hS2 hS0 hS1 c1' c2'
      try simp only [Act.put, List.setIfInBounds_toArray, List.set_cons_zero, List.set_cons_succ]
      refine WS_done (by kernel_rfl) ?_
      simp only [List.drop_succ_cons, List.drop_zero]
      go_wp2_with fail
      go_roundw
      case rel => exact ⟨j + 1, by omega, by go_num, by rw [HT.out]; exact HQ.out.1, HQ.out.2⟩
      case measure => simp [RowKit.intOf]; omega
    · obtain rfl : j = l.length := by omega
      have hi : ¬ (l.length : Int) < (l.length : Int) := by omega
      rw [List.take_of_length_le (by simp)] at ho
      have HO := Lib.hid ho
      have HBEL := Lib.hid hbel
      obtain ⟨A2, n2, c2, rfl⟩ : ∃ A n c, u3 = .slice A n c := by obtain ⟨A, c, e⟩ := own_slice ho; exact ⟨A, _, c, e⟩
      clear ho hbel
      go_wp2_with fail
      go_ret
      exact ⟨_, rfl, HO.out, HBEL.out⟩
section
variable {B wb : Nat} {w0 w : World} {k : RCst} {s : St}
set_option maxRecDepth 100000 in
set_option maxHeartbeats 32000000 in
theorem rcontents_any {E : Env} {vb vi : Value} (h : Ri B w0 w wb k s) (hE : REnv B w0 k vb vi E) :
    Calls Tryz.prog 48 #[.pointer (some ⟨wb, 0, none⟩)] w fun e w' => ∃ v, e = .returned v ∧ OwnC 9 1 txF w.heap.size w' v (E.heads.map hdLine) ∧ Below w.heap.size w w' := by
  obtain ⟨_, y11, _, _⟩ := h.env
  have hwl : wb < w.heap.size := World.block_lt_of_cell? w _ y11
  have hrow := below_row hE.hd h.bel h.hB
  obtain ⟨A1, c1, e1, _, _, hcx⟩ := hrow.shape
  rw [e1] at y11
  have HCX := Lib.hid hcx
  have HLT := Lib.hid hE.ok.hdt
  have hln := hE.ok.hd
  have HWL := Lib.hid hwl
  have HY := Lib.hid y11
  generalize E.heads = l at *
  clear hrow hcx h hE e1 hwl
  go_enter Tryz.func48, Tryz.ntmps48
  go_wp2_with fail
  go_loopw [3, 4] (fun v i wr => ∃ j : Nat, j ≤ l.length ∧ i = .int .i64 j ∧ OwnC 9 1 txF w.heap.size wr v ((l.map hdLine).take j) ∧ Below w.heap.size w wr) (fun _ i _ => l.length - (RowKit.intOf i).toNat)
  case atStart =>
    refine ⟨0, Nat.zero_le _, rfl, ?_, (Below.refl _ _).alloc (Nat.le_refl _) _⟩
    exact OwnC.made _ _ _ _ _ (Nat.le_refl _)
  case round =>
    obtain ⟨j, hj, rfl, ho, hbel⟩ := hrel
    have z11 : wr.cell? ⟨wb, 11, none⟩ = some (.slice A1 l.length c1) := (hbel.cell (p := ⟨wb, 11, none⟩) HWL.out).trans HY.out
    clear y11
    by_cases hjt : j < l.length
    · have hi : (j : Int) < (l.length : Int) := by omega
      have hi0 : (0 : Int) ≤ (j : Int) := by omega
      obtain ⟨b, off, rfl, hbl, hc⟩ := HCX.out (by intro e; rw [e] at hjt; simp at hjt)
      have c0' : wr.cell? ⟨b, off + j * 4, none⟩ = some (.int .i64 l[j].level) := (hbel.cell (p := ⟨b, off + j * 4, none⟩) hbl).trans (hc j hjt 0 _ rfl)
      have c1' : wr.cell? ⟨b, off + j * 4 + 1, none⟩ = some (vs l[j].num) := (hbel.cell (p := ⟨b, off + j * 4 + 1, none⟩) hbl).trans (hc j hjt 1 _ rfl)
      have c2' : wr.cell? ⟨b, off + j * 4 + 2, none⟩ = some (vs l[j].title) := (hbel.cell (p := ⟨b, off + j * 4 + 2, none⟩) hbl).trans (hc j hjt 2 _ rfl)
      have c3' : wr.cell? ⟨b, off + j * 4 + 3, none⟩ = some (.int .i64 l[j].page) := (hbel.cell (p := ⟨b, off + j * 4 + 3, none⟩) hbl).trans (hc j hjt 3 _ rfl)
      obtain ⟨hl1, hl2⟩ := HLT.out l[j] (List.getElem_mem hjt)
      have HT : Hid ((l.map hdLine).take (j + 1) = (l.map hdLine).take j ++ [hdLine l[j]]) := Lib.hid (by rw [List.take_succ_eq_append_getElem (by simpa using hjt), List.getElem_map])
      have hlen : ((l.map hdLine).take j).length ≤ 300 := by simp; omega
      generalize l[j] = hh at *
      obtain ⟨m, hm1, hm2, hm3⟩ := dig_cut hh.page
      have hdl := dig_len6 (m : Int)
      have HCT := Lib.hid (fun wx => rCut_any hh.page wx)
      rw [hm2] at HCT
      have HDG := Lib.hid (fun wx => rDig_any m hm1 wx)
      have HHD : Hid (hdLine hh = (if hh.level = 2 then [32, 32] else []) ++ (hh.num ++ 32 :: (hh.title ++ 32 :: dig (m : Int)))) := Lib.hid (by unfold hdLine; rw [hm3]; simp)
      generalize dig (m : Int) = D at *
      have o1 : bs hh.num ++ (⟨#[32]⟩ : ByteArray) = bs (hh.num ++ [32]) := by show _ ++ bs [32] = _; rw [bs_append]
      have o2 : bs (hh.num ++ [32]) ++ bs hh.title = bs (hh.num ++ 32 :: hh.title) := by rw [bs_append]; simp
      have o3 : bs (hh.num ++ 32 :: hh.title) ++ (⟨#[32]⟩ : ByteArray) = bs (hh.num ++ 32 :: (hh.title ++ [32])) := by show _ ++ bs [32] = _; rw [bs_append]; simp
      have o4 : bs (hh.num ++ 32 :: (hh.title ++ [32])) ++ bs D = bs (hh.num ++ 32 :: (hh.title ++ 32 :: D)) := by rw [bs_append]; simp
      have o5 : (⟨#[32, 32]⟩ : ByteArray) ++ bs (hh.num ++ 32 :: (hh.title ++ 32 :: D)) = bs (32 :: 32 :: (hh.num ++ 32 :: (hh.title ++ 32 :: D))) := by show bs [32, 32] ++ _ = _; rw [bs_append]; rfl
      have l1 : (bs hh.num).size = hh.num.length := bs_size _
      have l2 : (bs (hh.num ++ [32])).size = hh.num.length + 1 := by rw [bs_size]; simp
      have l3 : (bs hh.title).size = hh.title.length := bs_size _
      have l4 : (bs (hh.num ++ 32 :: hh.title)).size = hh.num.length + 1 + hh.title.length := by rw [bs_size]; simp; omega
      have l5 : (bs (hh.num ++ 32 :: (hh.title ++ [32]))).size = hh.num.length + 1 + hh.title.length + 1 := by rw [bs_size]; simp; omega
      have l6 : (bs D).size = D.length := bs_size _
      have l7 : (bs (hh.num ++ 32 :: (hh.title ++ 32 :: D))).size = hh.num.length + 1 + hh.title.length + 1 + D.length := by rw [bs_size]; simp; omega
      have g1 : ¬ (9223372036854775807 < hh.num.length + 1) := by omega
      have g2 : ¬ (9223372036854775807 < hh.num.length + 1 + hh.title.length) := by omega
      have g3 : ¬ (9223372036854775807 < hh.num.length + 1 + hh.title.length + 1) := by omega
      have g4 : ¬ (9223372036854775807 < hh.num.length + 1 + hh.title.length + 1 + D.length) := by omega
      have g5 : ¬ (9223372036854775807 < 2 + (hh.num.length + 1 + hh.title.length + 1 + D.length)) := by omega
      obtain ⟨i0, hi0', hz0, hz1, hz2⟩ := info_parts strInfo
      have hba : Below wr.heap.size wr (wr.alloc (.cells #[.int .i64 hh.level, vs hh.num, vs hh.title, .int .i64 hh.page] 86)) := (Below.refl _ _).alloc (Nat.le_refl _) _
      have hnew := heap_alloc_new wr (.cells #[.int .i64 hh.level, vs hh.num, vs hh.title, .int .i64 hh.page] 86)
      have HBA := Lib.hid hba
      have HS := Lib.hid (fun wx (hb : Below (wr.alloc (.cells #[.int .i64 hh.level, vs hh.num, vs hh.title, .int .i64 hh.page] 86)).heap.size (wr.alloc (.cells #[.int .i64 hh.level, vs hh.num, vs hh.title, .int .i64 hh.page] 86)) wx) => (by
        have h9 := (hb.block wr.heap.size (by simp)).trans hnew
        exact ⟨by rw [Lib.cell_of_heap h9]; rfl, by rw [Lib.cell_of_heap h9]; rfl, by rw [Lib.cell_of_heap h9]; rfl⟩ : (fun wz : World => wz.cell? ⟨wr.heap.size, 1, none⟩ = some (vs hh.num) ∧ wz.cell? ⟨wr.heap.size, 2, none⟩ = some (vs hh.title) ∧ wz.cell? ⟨wr.heap.size, 3, none⟩ = some (.int .i64 hh.page)) wx))
      have HSL := Lib.hid (fun wx (hb : Below (wr.alloc (.cells #[.int .i64 hh.level, vs hh.num, vs hh.title, .int .i64 hh.page] 86)).heap.size (wr.alloc (.cells #[.int .i64 hh.level, vs hh.num, vs hh.title, .int .i64 hh.page] 86)) wx) => (by
        have h9 := (hb.block wr.heap.size (by simp)).trans hnew
        rw [Lib.cell_of_heap h9]; rfl : wx.cell? ⟨wr.heap.size, 0, none⟩ = some (.int .i64 hh.level)))
      have HO := Lib.hid ho
      have HBEL := Lib.hid hbel
      obtain ⟨A2, n2, c2, rfl⟩ : ∃ A n c, u3 = .slice A n c := by obtain ⟨A, c, e⟩ := own_slice ho; exact ⟨A, _, c, e⟩
      clear hc hjt hba ho hbel hnew hm2 hm3
      go_upto_region 6 with fail
      obtain ⟨W, hW⟩ : ∃ W, W = wr.alloc (.cells #[.int .i64 hh.level, vs hh.num, vs hh.title, .int .i64 hh.page] 86) := ⟨_, rfl⟩
      rw [← hW] at HBA HS HSL ⊢
      clear hW c0' c1' c2' c3' z11
      have hb0 : Below W.heap.size W W.drew := (Below.refl _ _).drew
      have hS0 := HS.out _ hb0
      refine wp_region_headS 11 (fun wz : World => wz.cell? ⟨wr.heap.size, 1, none⟩ = some (vs hh.num) ∧ wz.cell? ⟨wr.heap.size, 2, none⟩ = some (vs hh.title) ∧ wz.cell? ⟨wr.heap.size, 3, none⟩ = some (.int .i64 hh.page)) (by kernel_rfl) (by kernel_rfl) ?_
      refine WS_take (i := 0) (v := ?vp0) (by simp only [List.getElem?_toArray, List.getElem?_cons_zero]; rfl) (by decide) (by kernel_rfl) (by kernel_rfl) (by intro _ _ _ h; exact h) (Or.inl ⟨by rfl, ?hyp0⟩) hS0 ?restp0
      case hyp0 =>
        intro wx hx
        obtain ⟨s1, s2, s3⟩ := hx
        go_simp
        try with_reducible rfl
      try simp only [Act.put, List.setIfInBounds_toArray, List.set_cons_zero, List.set_cons_succ]
      refine WS_take (i := 1) (v := ?vp1) (by simp only [List.getElem?_toArray, List.getElem?_cons_succ, List.getElem?_cons_zero]; rfl) (by decide) (by kernel_rfl) (by kernel_rfl) (by intro _ _ _ h; exact h) (Or.inl ⟨by rfl, ?hyp1⟩) hS0 ?restp1
      case hyp1 =>
        intro wx hx
        obtain ⟨s1, s2, s3⟩ := hx
        go_simp
        try with_reducible rfl
      try simp only [Act.put, List.setIfInBounds_toArray, List.set_cons_zero, List.set_cons_succ]
      refine WS_take (i := 2) (v := ?vp2) (by simp only [List.getElem?_toArray, List.getElem?_cons_succ, List.getElem?_cons_zero]; rfl) (by decide) (by kernel_rfl) (by kernel_rfl) (by intro _ _ _ h; exact h) (Or.inl ⟨by rfl, ?hyp2⟩) hS0 ?restp2
      case hyp2 =>
        intro wx hx
        obtain ⟨s1, s2, s3⟩ := hx
        go_simp
        try with_reducible rfl
      try simp only [Act.put, List.setIfInBounds_toArray, List.set_cons_zero, List.set_cons_succ]
      refine WS_take (i := 3) (v := ?vp3) (by simp only [List.getElem?_toArray, List.getElem?_cons_succ, List.getElem?_cons_zero]; rfl) (by decide) (by kernel_rfl) (by kernel_rfl) (by intro _ _ _ h; exact h) (Or.inl ⟨by rfl, ?hyp3⟩) hS0 ?restp3
      case hyp3 =>
        intro wx hx
        obtain ⟨s1, s2, s3⟩ := hx
        go_simp
        try with_reducible rfl
      try simp only [Act.put, List.setIfInBounds_toArray, List.set_cons_zero, List.set_cons_succ]
      refine WS_take (i := 4) (v := ?vp4) (by simp only [List.getElem?_toArray, List.getElem?_cons_succ, List.getElem?_cons_zero]; rfl) (by decide) (by kernel_rfl) (by kernel_rfl) (by intro _ _ _ h; exact h) (Or.inl ⟨by rfl, ?hyp4⟩) hS0 ?restp4
      case hyp4 =>
        intro wx hx
        obtain ⟨s1, s2, s3⟩ := hx
        go_simp
        try with_reducible rfl
      try simp only [Act.put, List.setIfInBounds_toArray, List.set_cons_zero, List.set_cons_succ]
      refine WS_take (i := 5) (v := ?vp5) (by simp only [List.getElem?_toArray, List.getElem?_cons_succ, List.getElem?_cons_zero]; rfl) (by decide) (by kernel_rfl) (by kernel_rfl) (by intro _ _ _ h; exact h) (Or.inl ⟨by rfl, ?hyp5⟩) hS0 ?restp5
      case hyp5 =>
        intro wx hx
        obtain ⟨s1, s2, s3⟩ := hx
        go_simp
        try with_reducible rfl
      try simp only [Act.put, List.setIfInBounds_toArray, List.set_cons_zero, List.set_cons_succ]
      refine WS_take (i := 6) (v := ?vp6) (by simp only [List.getElem?_toArray, List.getElem?_cons_succ, List.getElem?_cons_zero]; rfl) (by decide) (by kernel_rfl) (by kernel_rfl) (by intro _ _ _ h; exact h) (Or.inl ⟨by rfl, ?hyp6⟩) hS0 ?restp6
      case hyp6 =>
        intro wx hx
        obtain ⟨s1, s2, s3⟩ := hx
        go_simp
        try with_reducible rfl
      try simp only [Act.put, List.setIfInBounds_toArray, List.set_cons_zero, List.set_cons_succ]
      refine WS_take (i := 7) (v := ?vp7) (by simp only [List.getElem?_toArray, List.getElem?_cons_succ, List.getElem?_cons_zero]; rfl) (by decide) (by kernel_rfl) (by kernel_rfl) (by intro _ _ _ h; exact h) (Or.inl ⟨by rfl, ?hyp7⟩) hS0 ?restp7
      case hyp7 =>
        intro wx hx
        obtain ⟨s1, s2, s3⟩ := hx
        go_simp
        try with_reducible rfl
      try simp only [Act.put, List.setIfInBounds_toArray, List.set_cons_zero, List.set_cons_succ]
      refine WS_take (i := 8) (v := ?vp8) (by simp only [List.getElem?_toArray, List.getElem?_cons_succ, List.getElem?_cons_zero]; rfl) (by decide) (by kernel_rfl) (by kernel_rfl) (by intro _ _ _ h; exact h) (Or.inl ⟨by rfl, ?hyp8⟩) hS0 ?restp8
      case hyp8 =>
        intro wx hx
        obtain ⟨s1, s2, s3⟩ := hx
        go_simp
        try with_reducible rfl
      try simp only [Act.put, List.setIfInBounds_toArray, List.set_cons_zero, List.set_cons_succ]
      refine WS_one (i := 9) (by simp only [List.getElem?_toArray, List.getElem?_cons_succ, List.getElem?_cons_zero]; rfl) (by decide) (by kernel_rfl) (fun K hK => (if_pos (by kernel_rfl)).mpr ?_)
      go_simp
      refine (HCT.out _).mono ?_
      rintro e w5 ⟨rfl, rfl⟩
      dsimp only
      refine hK _ _ hS0 ?_
      clear hK K
      try simp only [Act.put, List.setIfInBounds_toArray, List.set_cons_zero, List.set_cons_succ]
      refine WS_one (i := 10) (by simp only [List.getElem?_toArray, List.getElem?_cons_succ, List.getElem?_cons_zero]; rfl) (by decide) (by kernel_rfl) (fun K hK => (if_pos (by kernel_rfl)).mpr ?_)
      go_simp
      refine (HDG.out _).mono ?_
      rintro e w6 ⟨rfl, b6⟩
      dsimp only
      have hb6 := hb0.trans (b6.mono hb0.size)
      have hS6 := HS.out _ hb6
      have z0 := HSL.out _ hb6
      have HB6 := Lib.hid (below_via HBA.out hb6)
      refine hK _ _ hS6 ?_
      clear hK K hS0 hS6 b6 hb6 hb0
      try simp only [Act.put, List.setIfInBounds_toArray, List.set_cons_zero, List.set_cons_succ]
      refine WS_done (by kernel_rfl) ?_
      simp only [List.drop_succ_cons, List.drop_zero]
      have HO6 := Lib.hid (HO.out.below HB6.out)
      have HSZ6 := Lib.hid (Nat.le_trans HBEL.out.size HB6.out.size)
      by_cases hlv : hh.level = 2
      · have hlb : (hh.level == 2) = true := by simp [hlv]
        have HE2 : Hid (32 :: 32 :: (hh.num ++ 32 :: (hh.title ++ 32 :: D)) = hdLine hh) := Lib.hid (by rw [HHD.out, if_pos hlv]; rfl)
        clear hlv
        go_wp2_with (at_builtin; refine wpList_appN (by rfl) (.tmp 43) (.tmp 45) 25 (by rfl) w.heap.size 9 i0 _ 1 16 Tryz.underlying25 hi0' hz0 hz1 hz2 (by rfl) (by decide) (.slice A2 n2 c2) ((l.map hdLine).take j).length (((l.map hdLine).take j).flatMap txF) (txF (32 :: 32 :: (hh.num ++ 32 :: (hh.title ++ 32 :: D)))) rfl (by simp [txF, Value.oneCell']) (by rfl) w6.heap.size rfl (by rfl) HO6.out HSZ6.out (by simp only [maxLen]; omega) (by omega) ?_; intro v' w' h1 h2 h3; obtain ⟨q1, q2⟩ := app_round HBEL.out HBEL.out.size HB6.out HO6.out h1 h2; have HQ := Lib.hid (And.intro q1 q2); clear h1 h2 h3 q1 q2)
        go_roundw
        case rel => exact ⟨j + 1, by omega, by go_num, by rw [HT.out]; exact HE2.out ▸ HQ.out.1, HQ.out.2⟩
        case measure => simp [RowKit.intOf]; omega
      · have hlb : (hh.level == 2) = false := by simp [hlv]
        have HE2 : Hid (hh.num ++ 32 :: (hh.title ++ 32 :: D) = hdLine hh) := Lib.hid (by rw [HHD.out, if_neg hlv]; rfl)
        clear hlv
        go_wp2_with (at_builtin; refine wpList_appN (by rfl) (.tmp 43) (.tmp 45) 25 (by rfl) w.heap.size 9 i0 _ 1 16 Tryz.underlying25 hi0' hz0 hz1 hz2 (by rfl) (by decide) (.slice A2 n2 c2) ((l.map hdLine).take j).length (((l.map hdLine).take j).flatMap txF) (txF (hh.num ++ 32 :: (hh.title ++ 32 :: D))) rfl (by simp [txF, Value.oneCell']) (by rfl) w6.heap.size rfl (by rfl) HO6.out HSZ6.out (by simp only [maxLen]; omega) (by omega) ?_; intro v' w' h1 h2 h3; obtain ⟨q1, q2⟩ := app_round HBEL.out HBEL.out.size HB6.out HO6.out h1 h2; have HQ := Lib.hid (And.intro q1 q2); clear h1 h2 h3 q1 q2)
        go_roundw
        case rel => exact ⟨j + 1, by omega, by go_num, by rw [HT.out]; exact HE2.out ▸ HQ.out.1, HQ.out.2⟩
        case measure => simp [RowKit.intOf]; omega
    · obtain rfl : j = l.length := by omega
      have hi : ¬ (l.length : Int) < (l.length : Int) := by omega
      rw [List.take_of_length_le (by simp)] at ho
      have HO := Lib.hid ho
      have HBEL := Lib.hid hbel
      obtain ⟨A2, n2, c2, rfl⟩ : ∃ A n c, u3 = .slice A n c := by obtain ⟨A, c, e⟩ := own_slice ho; exact ⟨A, _, c, e⟩
      clear ho hbel
      go_wp2_with fail
      go_ret
      exact ⟨_, rfl, HO.out, HBEL.out⟩
theorem close_id {s : St} (h : s.c.flows = false ∧ s.c.op = false) : Nb.close s = s := by
  obtain ⟨h1, h2⟩ := h
  obtain ⟨_, _, _, _, _, _, _, _, _, _, c, _⟩ := s
  obtain ⟨f, o, _, _, _, _⟩ := c
  simp only at h1 h2
  subst h1 h2
  rfl
set_option maxRecDepth 100000 in
set_option maxHeartbeats 16000000 in
theorem rrows_any (h : Ri B w0 w wb k s) (T : Nat) (hT : T ≤ 800000) (hT6 : 600 ≤ T) (hd : Bd s T) (vl : Value) (l : List Bs) (hr : ∀ wx s', Ri B w0 wx wb k s' → RowC 1 txF wx wx.heap.size vl l) (hl : l.length ≤ 300) (hlt : ∀ x ∈ l, x.length ≤ 600) :
    Calls Tryz.prog 36 #[.pointer (some ⟨wb, 0, none⟩), vl] w fun e w' => e = .returned (.tuple #[]) ∧ Ri B w0 w' wb k (Nb.lines (Nb.close s) l) := by
  obtain ⟨A1, c1, rfl, _, _, hcx⟩ := (hr w s h).shape
  have HR := Lib.hid hr
  have HK := Lib.hid h
  have HK2 := Lib.hid ((h.flows false).op false)
  have f14 := h.cells.2 14
  have f15 := (h.flows false).cells.2 15
  have f15' := h.cells.2 15
  obtain ⟨⟨y14, y15, -⟩, -⟩ := h.cells
  have HBD := Lib.hid hd.close
  have HLT := Lib.hid hlt
  clear h hr hcx hd hlt
  go_enter Tryz.func36, Tryz.ntmps36
  go_wp2_with fail
  go_loopw [4] (fun i wr => ∃ j : Nat, j ≤ l.length ∧ i = .int .i64 j ∧ Ri B w0 wr wb k (Nb.lines (Nb.close s) (l.take j))) (fun i _ => l.length - (RowKit.intOf i).toNat)
  case atStart => exact ⟨0, Nat.zero_le _, rfl, HK2.out⟩
  case round =>
    obtain ⟨j, hj, rfl, hI⟩ := hrel
    by_cases hjt : j < l.length
    · have hi : (j : Int) < (l.length : Int) := by omega
      have hi0 : (0 : Int) ≤ (j : Int) := by omega
      obtain ⟨_, _, _, hcx⟩ := (HR.out wr _ hI).bounds
      obtain ⟨b, off, rfl, hbl, hc⟩ := hcx j hjt
      have c0' : wr.cell? ⟨b, off + j, none⟩ = some (vs l[j]) := by
        have := hc 0 _ rfl
        rw [Nat.mul_one, Nat.add_zero] at this
        exact this
      have hbdj := HBD.out.lines (l.take j) hT6 (fun u hu => HLT.out u (List.mem_of_mem_take hu))
      have hcl := lines_closed (l.take j) (Nb.close s) ⟨rfl, rfl⟩
      have HT : Hid (Nb.lines (Nb.close s) (l.take (j + 1)) = Nb.close (Nb.block (Nb.lines (Nb.close s) (l.take j)) 2 [l[j]])) := Lib.hid (by
        rw [List.take_succ_eq_append_getElem hjt, lines_snoc]
        exact (close_id (s := Nb.block (Nb.lines (Nb.close s) (l.take j)) 2 [l[j]]) hcl).symm)
      have htl : (l.take j).length ≤ 300 := by simp; omega
      generalize l[j] = x at *
      have HBL := Lib.hid (rblock_any (hI.with ((Below.refl wr.heap.size wr).alloc (Nat.le_refl _) _) (rrow_own wr x)) 2 (by have := hbdj.bl; omega) (by have := hbdj.wo; omega) (by simp))
      clear hc hcx hI hbdj hcl hjt y14 y15 f14 f15 f15'
      go_wp2_with fail
      refine HBL.out.mono ?_
      rintro e w1 ⟨rfl, H1⟩
      have HK1 := Lib.hid H1
      clear H1
      go_wp2_with fail
      go_roundw
      case rel => exact ⟨j + 1, by omega, by go_num, by rw [HT.out]; exact HK1.out⟩
      case measure => simp [RowKit.intOf]; omega
    · obtain rfl : j = l.length := by omega
      have hi : ¬ (l.length : Int) < (l.length : Int) := by omega
      rw [List.take_length] at hI
      have HI := Lib.hid hI
      clear hI
      go_wp2_with fail
      go_end0
      exact ⟨rfl, HI.out⟩
end
end Go.Proofs.YtjmmfihmamcopaaGreatDoor
