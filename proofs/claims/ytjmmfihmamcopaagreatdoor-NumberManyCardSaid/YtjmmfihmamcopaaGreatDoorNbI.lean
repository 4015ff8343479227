/- number: once; slices.IndexFunc over the references. -/
import Derived.Test.YtjmmfihmamcopaaGreatDoorNbH
namespace Go.Proofs.YtjmmfihmamcopaaGreatDoor
open Go.RowKit Tx Nb

theorem txF_len (x : Bs) : (txF x).length = 1 := rfl
theorem contains_any {w : World} {B : Nat} {v : Value} {l : List Bs} (ho : w.ownsRow B 9 1 v l.length (l.flatMap txF)) (hl : l.length < 1000000) (t : Bs) :
    Calls Tryz.prog 66 #[v, vs t] w fun e w' => e = .returned (.bool (decide (t ∈ l))) ∧ w' = w := by
  by_cases h0 : l = []
  · subst h0
    obtain ⟨A, c, rfl⟩ := own_slice ho
    exact Tryz.slices_Contains_string_empty A c (bs t) w
  · obtain ⟨g, c, rfl, _, _, _, _, hc⟩ := own_some ho (List.length_pos_iff.2 h0)
    have e := Tryz.slices_Contains_string g 0 l.length c (l.map bs) (bs t) w (by simp) (by omega) (fun j hj => by
      have hj' : j < l.length := by simpa using hj
      have h1 := (hc j (by omega)).1
      rw [Nat.zero_add, h1]
      have h2 := flat_at (f := txF) (n := 1) txF_len l j 0 hj' (by omega)
      simp only [Nat.mul_one, Nat.add_zero] at h2
      rw [h2]
      simp [txF, hj'])
    refine e.mono ?_
    rintro e w' ⟨rfl, rfl⟩
    refine ⟨?_, rfl⟩
    have : Lib.containsS ((l.map bs).take l.length) (bs t) = decide (t ∈ l) := by
      rw [show (l.map bs).take l.length = l.map bs by rw [← List.length_map (f := bs)]; exact List.take_length]
      rw [Bool.eq_iff_iff, Lib.containsS_iff]
      simp only [List.mem_map, decide_eq_true_eq]
      exact ⟨fun ⟨a, h1, h2⟩ => bs_inj h2 ▸ h1, fun h => ⟨t, h, rfl⟩⟩
    rw [this]
section
variable {B wb : Nat} {w0 w : World} {k : Cst} {s : St}
theorem Wk.self {v : Nat → Value} {N : Nat} {D : Nat → Desc} {c : Sc} {own : Cn} (h : Wk B w0 w wb k v N D c own) {i : Nat} (hi : i < 10) : Wk B w0 (w.setCell ⟨wb, i, none⟩ (v i)) wb k v N D c own :=
  h.set i (v i) c (by rcases i with _ | _ | _ | _ | _ | _ | _ | _ | _ | _ | i <;> first | rfl | omega)
/-- A list that is behind 'once', before it is stored. -/
def OncePost (B : Nat) (w0 : World) (wb : Nat) (k : Cst) (i : Nat) (u : Value) (s' : St) (e : Ending) (w' : World) : Prop :=
  ∃ A n c, e = .returned (.slice A n c) ∧ w'.cell? ⟨wb, i, none⟩ = some u ∧ w'.frozen? ⟨wb, i, none⟩ = false ∧ Is B w0 (w'.setCell ⟨wb, i, none⟩ (.slice A n c)) wb k s' ∧ ∀ p ∈ k.res, w'.heap[p.1]? = some p.2
set_option maxRecDepth 100000 in
set_option maxHeartbeats 8000000 in
theorem once_any {v : Nat → Value} (hw : Wk B w0 w wb k v (10 + s.blocks.length) (desc s v) s.c s.own) (i : Nat) (hi : 0 < i ∧ i < 10) (L : List Bs) (put : List Bs → St) (hp : put L = s) (hb : ∀ l, (put l).blocks = s.blocks) (hc : ∀ l, (put l).c = s.c) (how : ∀ l, (put l).own = s.own)
    (hdi : ∀ l v, desc (put l) v i = ⟨9, 1, l.length, l.flatMap txF⟩) (hdj : ∀ l v j, j ≠ i → 0 < j → j < 10 → desc (put l) v j = desc s v j) (hnt : s.notes.length < 1000000) (hl : L.length < 1000000) (t : Bs) (most : Nat) (hi9 : i < 9) :
    Calls Tryz.prog 57 #[.pointer (some ⟨wb, 0, none⟩), v i, vs t, .int .i64 most] w (OncePost B w0 wb k i (v i) (noteIf (put (once L t most).1) (once L t most).2 t)) := by
  have ho : w.ownsRow B 9 1 (v i) L.length (L.flatMap txF) := by
    have := hw.ow.own i (by omega)
    rw [← hp, hp] at this
    have h9 := hdi L v
    rw [hp] at h9
    rw [h9] at this
    exact this
  have HCT := Lib.hid (contains_any ho hl t)
  have HW := Lib.hid hw
  have HO := Lib.hid ho
  have HNT := Lib.hid (note_wk hw 3 t hnt)
  obtain ⟨A1, c1, hv1⟩ := own_slice ho
  have HV1 := Lib.hid hv1
  have hself := hw.self (i := i) hi.2
  rw [hv1] at HCT hself ⊢
  have HSELF := Lib.hid hself
  have hcell : w.cell? ⟨wb, i, none⟩ = some (v i) := (hw.cell i).trans (by rcases i with _ | _ | _ | _ | _ | _ | _ | _ | _ | _ | i <;> first | rfl | omega)
  have HCELL := Lib.hid hcell
  by_cases ht : t ∈ L
  · have hd : decide (t ∈ L) = true := by simp [ht]
    rw [hd] at HCT
    have HR : Hid (noteIf (put (once L t most).1) (once L t most).2 t = s) := Lib.hid (by unfold Nb.once; rw [if_pos ht]; simpa [noteIf] using hp)
    clear hw ho hv1 hself hcell hd ht
    go_enter Tryz.func57, Tryz.ntmps57
    go_wp2_with fail
    refine HCT.out.mono ?_
    rintro e w1 ⟨rfl, rfl⟩
    go_wp2_with fail
    go_ret
    exact ⟨A1, _, c1, rfl, HCELL.out.trans (congrArg some HV1.out), HW.out.frozen i, by rw [HR.out]; exact ⟨v, HSELF.out⟩, fun p hp => (HW.out.res p hp).1⟩
  · have hd : decide (t ∈ L) = false := by simp [ht]
    rw [hd] at HCT
    by_cases hm : most ≤ L.length
    · have hmi : (most : Int) ≤ (L.length : Int) := by omega
      have HR : Hid (noteIf (put (once L t most).1) (once L t most).2 t = Nb.note s 3 t) := Lib.hid (by unfold Nb.once; rw [if_neg ht, if_pos hm]; simp [noteIf, hp])
      clear hw ho hv1 hself hcell hd ht hm
      go_enter Tryz.func57, Tryz.ntmps57
      go_wp2_with fail
      refine HCT.out.mono ?_
      rintro e w1 ⟨rfl, rfl⟩
      go_wp2_with fail
      refine HNT.out.mono ?_
      rintro e w2 ⟨rfl, v2, H2, hv2⟩
      have HH2 := Lib.hid H2
      have HV2 := Lib.hid ((hv2 i (by omega)).trans HV1.out)
      clear H2 hv2
      go_wp2_with fail
      go_ret
      have h9 := HH2.out.self (i := i) hi.2
      have h8 : w2.cell? ⟨wb, i, none⟩ = some (v2 i) := (HH2.out.cell i).trans (by rcases i with _ | _ | _ | _ | _ | _ | _ | _ | _ | _ | i <;> first | rfl | omega)
      rw [HV2.out] at h9
      exact ⟨A1, _, c1, rfl, h8.trans (congrArg some HV2.out), HH2.out.frozen i, by rw [HR.out]; exact ⟨v2, h9⟩, fun p hp => (HH2.out.res p hp).1⟩
    · have hmi : ¬ ((most : Int) ≤ (L.length : Int)) := by omega
      have HR : Hid (noteIf (put (once L t most).1) (once L t most).2 t = put (L ++ [t])) := Lib.hid (by unfold Nb.once; rw [if_neg ht, if_neg hm]; simp [noteIf])
      obtain ⟨j0, hi0, hz0, hz1, hz2⟩ := info_parts strInfo
      have HPU := Lib.hid (fun (w' : World) (v' : Value) (h1 : (desc (put (L ++ [t])) v i).Is B w' v') h2 h3 => hw.push (w' := w') (s' := put (L ++ [t])) i hi (hb _) (hc _) (how _) (hdj _ v) h1 h2 h3)
      have HDI := Lib.hid hdi
      clear hw ho hv1 hself hcell hd ht hm
      go_enter Tryz.func57, Tryz.ntmps57
      go_wp2_with fail
      refine HCT.out.mono ?_
      rintro e w1 ⟨rfl, rfl⟩
      go_wp2_with (at_builtin; refine wpList_appN (by rfl) (.tmp 21) (.tmp 23) 25 (by rfl) B 9 j0 _ 1 16 Tryz.underlying25 hi0 hz0 hz1 hz2 (by rfl) (by decide) (.slice A1 L.length c1) L.length (L.flatMap txF) (txF t) rfl (by simp [txF, Value.oneCell']) (by rfl) w1.heap.size rfl (by rfl) (HV1.out ▸ HO.out) HW.out.hB (by simp only [maxLen]; omega) (by omega) ?_; intro v' w' h1 h2 h3; obtain ⟨A', c', rfl⟩ := own_slice h1; have HH := Lib.hid (And.intro h1 (And.intro h2 h3)); clear h1 h2 h3)
      go_ret
      obtain ⟨h1, h2, h3⟩ := HH.out
      obtain ⟨_, q1, q2, q3⟩ := HPU.out w' (.slice A' (L.length + 1) c') (by rw [HDI.out]; simpa [Desc.Is] using h1) (by rw [HV1.out]; exact h2) (by rw [HV1.out]; exact h3)
      have q4 : w'.cell? ⟨wb, i, none⟩ = some (v i) := (q1 i).trans (by rcases i with _ | _ | _ | _ | _ | _ | _ | _ | _ | _ | i <;> first | rfl | omega)
      refine ⟨A', _, c', rfl, q4.trans (congrArg some HV1.out), q2 i, by rw [HR.out]; exact q3, fun p hp => ?_⟩
      have h8 := HW.out.lt _ (k.mem_res wb hp)
      exact (h2.block p.1 h8 (fun e => HW.out.ow.out i (by omega) p.1 (by rw [HV1.out]; exact e.symm) (k.mem_res wb hp))).trans (HW.out.res p hp).1
end
end Go.Proofs.YtjmmfihmamcopaaGreatDoor
