/- StoreOwn. -/
import Derived.Test.YtkoegbjnhoecoaaGreatDoorStF
namespace Go.Proofs.YtkoegbjnhoecoaaGreatDoor
open Go.RowKit Tx

set_option maxRecDepth 100000 in
set_option maxHeartbeats 16000000 in
theorem own_law (v0 : Value) (z0 : List Wr.F) (w : World) (hr0 : RowC 2 ff w w.heap.size v0 z0) (ok0 : ∀ f ∈ z0, FOk f) (hg0 : Gl w) :
    Calls Tryz.prog 4 #[v0] w fun e w' => e = .returned (.bool true) ∧ Below w.heap.size w w' := by
  have hHG := Lib.hid (gl_from hg0)
  have HR0 := Lib.hid hr0
  obtain ⟨hra, hla, hoka⟩ := map40 z0
  have HMA := Lib.hid (fun wx (hb : Below w.heap.size w wx) => mapF_own v0 z0 6 40 wx (HR0.out.step hb) ok0 (by omega) (by omega))
  obtain ⟨A0, c0, rfl, _⟩ := hr0.shape
  generalize Wr.mapF z0 6 40 = LA at *
  have hha : Sq.half 40 = 19 := by decide
  have HOKA := Lib.hid hoka
  have hal : LA.length ≤ 32 := FOk_right hra
  have hca : Sq.cnt (Wr.files LA) ≤ 20 := by unfold Sq.cnt; omega
  have HRA := Lib.hid hra
  have HPA := Lib.hid (parL_files hra)
  clear hr0 ok0 hg0 hoka hra
  go_enter Tryz.func4, Tryz.ntmps4
  go_wp2_with fail
  refine (on_any 40 (by omega) (Nat.le_refl _) (Below.refl _ _) hHG.out).mono ?_
  rintro e w1 ⟨sb, bd, R, rfl, S1, b1, _⟩
  have HS1 := Lib.hid S1
  have HB1 := Lib.hid b1
  have hsb1 : sb < w1.heap.size := (S1.disk.2.2.1 sb S1.mem).1
  clear S1 b1
  go_wp2_with fail
  refine (HMA.out w1 HB1.out).mono ?_
  rintro e w2 ⟨va, rfl, OA, b2⟩
  have HB2 := Lib.hid (below_via HB1.out b2)
  have HOA := Lib.hid OA
  have HX2 := Lib.hid b2
  have hs2 := b2.size
  have hva := OA.slice0
  obtain ⟨aA, an, ac, rfl⟩ : ∃ A n c, va = .slice A n c := by obtain ⟨A, c, h, _⟩ := (OA.rowC ff_length).shape; exact ⟨A, _, c, h⟩
  have hsrc := src_own (w := w2.alloc (.cells #[] 29)) (OA.below ((Below.refl _ _).alloc (Nat.le_refl _) _))
  have HSRC := Lib.hid hsrc
  obtain ⟨i0, hi0, hz0, hz1, hz2⟩ := info_parts fileInfo
  have hmade := OwnC.made 29 2 ff w2.heap.size w2 (Nat.le_refl _)
  have HM := Lib.hid hmade
  have HBA := Lib.hid ((Below.refl w2.heap.size w2).alloc (Nat.le_refl _) (.cells #[] 29))
  clear OA b2 hsrc hmade
  go_wp2_with (at_builtin; refine wpList_appRow (by rfl) (.tmp 18) (.tmp 19) 30 (by rfl) w2.heap.size 29 i0 _ 2 32 Tryz.underlying30 hi0 hz0 hz1 hz2 (by rfl) (by decide) _ 0 [] (by rfl) HM.out HBA.out.size _ (by rfl) LA.length (LA.flatMap ff) HSRC.out (fun y hy => by obtain ⟨f, _, hf⟩ := List.mem_flatMap.1 hy; exact ff_ones f y hf) (by simp only [maxLen]; omega) (by omega) ?_; intro vw w3 q1 q2 q3; rw [Nat.zero_add, List.nil_append] at q1)
  have hb3 : Below w2.heap.size w2 w3 := HBA.out.trans (grown_below HM.out HBA.out.size q2)
  have HOW := Lib.hid (show OwnC 29 2 ff w2.heap.size w3 vw LA from q1)
  have hs3 := hb3.size
  have HS3 := Lib.hid (HS1.out.more (HX2.out.trans (hb3.mono hs2)) ((Value.slice aA an ac).ownBlock.toList ++ vw.ownBlock.toList) (fun k hk => by
    rcases List.mem_append.1 hk with hk | hk
    · have := HOA.out.lt k (by simpa using hk)
      omega
    · have := HOW.out.lt k (by simpa using hk)
      omega))
  have HKA := Lib.hid (rowK_own (B := w.heap.size) (R := (Value.slice aA an ac).ownBlock.toList ++ vw.ownBlock.toList ++ R) (sb := sb) HOA.out hb3 (fun k hk => by simp [hk]) hsb1)
  have HOA3 := Lib.hid (HOA.out.below hb3)
  obtain ⟨wA, wn, wc', rfl⟩ : ∃ A n c, vw = .slice A n c := by obtain ⟨A, c, h, _⟩ := (HOW.out.rowC ff_length).shape; exact ⟨A, _, c, h⟩
  clear q1 q2 q3 hb3 hi0 hz0 hz1 hz2
  refine (commit_any 40 [] _ LA HS3.out HKA.out rfl (by omega) rfl (by simp [Dk.fresh]) (Sq.Good.fresh 40) (by simp) (by simp) HRA.out (by omega) HOKA.out hHG.out).mono ?_
  rintro e w4 ⟨hsame, ⟨rfl, d4, R4, S4, hsub, base4, hp4, hG4, hc4, _, fv4, hfv, hfn⟩ | ⟨_, d4, _, _, _, _, hx, _⟩⟩
  case inr => exact absurd rfl hx
  have HC4 : Hid (Calm w.heap.size w w4 bd 40 sb (0 + 1) 100 LA R4) := Lib.hid ⟨d4, _, _, S4, base4.n, base4.live rfl, hp4, hG4, (show HBd 0 (0, 0) (0, 0) from ⟨by simp, by simp, by simp, by simp⟩).next _ (by omega), by
    have h0 : ∀ n, (Dk.fresh n).cnt = 0 := fun _ => rfl
    rw [h0] at hc4
    omega⟩
  have HOA4 : Hid (OwnC 29 2 ff w1.heap.size w4 (.slice aA an ac) LA) := Lib.hid (HOA3.out.heap fun k hk => hsame k (by simp [hk]) (fun e => by have := (HOA3.out.lt k hk).1; omega))
  have HOW4 : Hid (OwnC 29 2 ff w2.heap.size w4 (.slice wA wn wc') LA) := Lib.hid (HOW.out.heap fun k hk => hsame k (by simp [hk]) (fun e => by have := (HOW.out.lt k hk).1; omega))
  have HFR4 : Hid (∀ g, (Value.slice aA an ac).ownBlock = some g → (Free w4 sb g ∧ Block w4 g LA.length) ∧ g ∈ R4 ∧ g ≠ sb ∧ g < w2.heap.size) := Lib.hid fun g hg => by
    refine ⟨⟨fun bd' a' b' fv' e hown => ?_, HOA4.out.blockF g hg⟩, hsub g (by simp [hg]), fun e => by have := (HOA.out.lt g hg).1; omega, (HOA.out.lt g hg).2⟩
    rw [hfv] at e
    have e2 := Option.some.inj e
    unfold SBlk at e2
    injection e2 with e3
    have e4 := congrArg (fun z : Array Value => z[5]?) e3
    simp at e4
    exact hfn g (by rw [e4]; exact hown) (by simp [hg])
  clear hsame S4 hsub base4 hp4 hG4 hc4 hfv hfn
  go_wp2_with fail
  go_loopw [7] (fun i wr => ∃ k : Nat, k ≤ LA.length ∧ i = .int .i64 k ∧ Calm w.heap.size w wr bd 40 sb (0 + 1) 100 LA R4 ∧ (∀ g, (Value.slice aA an ac).ownBlock = some g → Free wr sb g ∧ Block wr g LA.length) ∧ OwnC 29 2 ff w2.heap.size wr (.slice wA wn wc') LA) (fun i _ => LA.length - (RowKit.intOf i).toNat)
  case atStart => exact ⟨0, Nat.zero_le _, rfl, HC4.out, fun g hg => (HFR4.out g hg).1, HOW4.out⟩
  case round =>
    obtain ⟨k, hk, rfl, hcal, hfr, how⟩ := hrel
    have HCAL := Lib.hid hcal
    have HFR := Lib.hid hfr
    have HOWR := Lib.hid how
    have han : an = LA.length := by
      rcases hva with ⟨h, hl⟩ | ⟨g, c, h⟩ <;> injection h with _ h2 _
      · omega
    clear hcal hfr how
    by_cases hlt : k < LA.length
    · rcases hva with ⟨h, hl⟩ | ⟨g, c, h⟩
      · omega
      injection h with h1 h2 h3
      subst h1 h2 h3
      obtain ⟨hF, hBk⟩ := HFR.out g rfl
      obtain ⟨⟨u, hu⟩, hfz⟩ := hBk.cell hlt
      have HF := Lib.hid hF
      have HBk := Lib.hid hBk
      have i0 : (0 : Int) ≤ (k : Int) := by omega
      have i1 : (k : Int) < (LA.length : Int) := by omega
      clear hF hBk
      go_wp2_with fail
      obtain ⟨g1, g2, g3⟩ := (HFR4.out g rfl).2
      have hset := HCAL.out.set g (k * 2 + 1) (.string (bs turned)) g1 g2 HF.out
      go_roundw
      case rel => exact ⟨k + 1, by omega, by go_num, hset.1, fun g' hg' => by
        have e : g = g' := by simpa [Value.ownBlock] using hg'
        subst e
        exact ⟨hset.2, HBk.out.set _ _⟩, HOWR.out.heap fun k' hk' => Below.heap_setCell _ _ _ _ (fun e => by
          have := (HOWR.out.lt k' hk').1
          have e' : k' = g := by simpa using e
          omega)⟩
      case measure => simp [RowKit.intOf]; omega
    · obtain rfl : k = LA.length := by omega
      have i1 : ¬ (LA.length : Int) < (LA.length : Int) := by omega
      subst han
      go_wp2_with fail
      refine (load_calm HCAL.out (by omega)).mono ?_
      rintro e w8 ⟨v8, rfl, O8, b8⟩
      have HB8 := Lib.hid b8
      have hv8 := O8.slice0
      have HBK8 := Lib.hid O8.blockF
      have HLT8 := Lib.hid O8.lt
      obtain ⟨vA, vn, vc, rfl⟩ : ∃ A n c, v8 = .slice A n c := by obtain ⟨A, c, h, _⟩ := (O8.rowC ff_length).shape; exact ⟨A, _, c, h⟩
      clear O8 b8
      go_wp2_with fail
      go_loopw [9] (fun i wx => ∃ k : Nat, k ≤ LA.length ∧ i = .int .i64 k ∧ Below wr.heap.size wr wx ∧ ∀ g, (Value.slice vA vn vc).ownBlock = some g → Block wx g LA.length) (fun i _ => LA.length - (RowKit.intOf i).toNat)
      case atStart => exact ⟨0, Nat.zero_le _, rfl, HB8.out, HBK8.out⟩
      case round =>
        obtain ⟨k, hk, rfl, hbel, hfr⟩ := hrel
        have HBL := Lib.hid hbel
        have HFX := Lib.hid hfr
        have hvn : vn = LA.length := by
          rcases hv8 with ⟨h, hl⟩ | ⟨g, c, h⟩ <;> injection h with _ h2 _
          · omega
        clear hbel hfr
        by_cases hlt : k < LA.length
        · rcases hv8 with ⟨h, hl⟩ | ⟨g, c, h⟩
          · omega
          injection h with h1 h2 h3
          subst h1 h2 h3
          have hBk := HFX.out g rfl
          obtain ⟨⟨u, hu⟩, hfz⟩ := hBk.cell hlt
          have HBk := Lib.hid hBk
          have i0 : (0 : Int) ≤ (k : Int) := by omega
          have i2 : (k : Int) < (LA.length : Int) := by omega
          clear hBk
          go_wp2_with fail
          go_roundw
          case rel => exact ⟨k + 1, by omega, by go_num, HBL.out.setCell (p := ⟨g, k * 2 + 1, none⟩) (HLT8.out g rfl).1 _, fun g' hg' => by
            have e : g = g' := by simpa [Value.ownBlock] using hg'
            subst e
            exact HBk.out.set _ _⟩
          case measure => simp [RowKit.intOf]; omega
        · obtain rfl : k = LA.length := by omega
          subst hvn
          have hC9 := HCAL.out.below HBL.out
          have HC9 := Lib.hid hC9
          have HOW9 := Lib.hid (HOWR.out.below HBL.out)
          clear hC9
          go_wp2_with fail
          refine (load_calm HC9.out (by omega)).mono ?_
          rintro e w10 ⟨v10, rfl, O10, b10⟩
          have HO10 := Lib.hid O10
          have HB10 := Lib.hid (HC9.out.disk.bel.2.1.trans (b10.mono HC9.out.disk.bel.1))
          have HOW10 := Lib.hid (HOW9.out.below b10)
          obtain ⟨xA, xn, xc, rfl⟩ : ∃ A n c, v10 = .slice A n c := by obtain ⟨A, c, h, _⟩ := (O10.rowC ff_length).shape; exact ⟨A, _, c, h⟩
          clear O10 b10
          go_wp2_with fail
          refine (lsame_any (q := true) _ _ LA LA (by simp) w10 (HO10.out.rowC ff_length) (HOW10.out.rowC ff_length) (by omega) (by omega)).mono ?_
          rintro e w11 ⟨rfl, nq, h11⟩
          have HB11 := Lib.hid (show Below w.heap.size w w11 by rw [h11]; exact below_drewN' HB10.out nq)
          clear h11
          go_wp2_with fail
          refine (fixed_any w11 (hHG.out _ HB11.out)).mono ?_
          rintro e w12 ⟨rfl, b12⟩
          go_wp2_with fail
          go_ret
          exact ⟨rfl, below_via HB11.out b12⟩
end Go.Proofs.YtkoegbjnhoecoaaGreatDoor
