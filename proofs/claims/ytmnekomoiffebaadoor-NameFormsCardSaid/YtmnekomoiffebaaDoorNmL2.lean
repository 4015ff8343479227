/- The walk of stetlaw16.NameShows. -/
import Derived.Test.YtmnekomoiffebaaDoorRows
import Derived.Test.YtmnekomoiffebaaDoorNmFx
import Derived.Test.YtmnekomoiffebaaDoorNmMx
import Derived.Test.YtmnekomoiffebaaDoorNmS3
import Derived.Test.YtmnekomoiffebaaDoorNmS4
import Derived.Test.YtmnekomoiffebaaDoorNmS6
import Derived.Test.YtmnekomoiffebaaDoorNmL1
namespace Go.Proofs.YtmnekomoiffebaaDoor
open Go.RowKit Go.Lib Go.Sort Tx

theorem qInfo : (Tryd.prog.info? 28).map (fun i => (i.zero, i.size, i.bytes)) = some (some (.agg #[.string ⟨#[]⟩, .string ⟨#[]⟩, .string ⟨#[]⟩, .string ⟨#[]⟩]), 4, 64) := by kernel_rfl
theorem sm_more {p : P4} (h : Sm p 61) : Sm p 10000 := ⟨by have := h.first; omega, by have := h.von; omega, by have := h.last; omega, by have := h.jr; omega⟩
/-- Parts that are texts at all. -/
def Big (p : P4) : Prop := p.first.length ≤ maxLen ∧ p.von.length ≤ maxLen ∧ p.last.length ≤ maxLen ∧ p.jr.length ≤ maxLen
theorem bne_bs (x : Bs) : ((bs x).toList != (bs x).toList) = false := by simp

set_option maxHeartbeats 4000000 in
theorem nameShows_any (v : Value) (l : List P4) (w : World) (hm : MaxL w) (h : RowC 4 pc w w.heap.size v l) (hb : ∀ p ∈ l, Big p) :
    Calls Tryd.prog 4 #[v] w fun e w' => e = .returned (.bool true) ∧ Below w.heap.size w w' := by
  obtain ⟨A, cap, rfl, _⟩ := h.shape
  obtain ⟨_, r1, r2, r3⟩ := h.bounds
  have HC := Lib.hid r3
  have HB := Lib.hid hb
  have HM := Lib.hid hm
  obtain ⟨n, hn⟩ : ∃ n, n = min l.length 8 := ⟨_, rfl⟩
  have hn8 : n ≤ 8 := by omega
  have hnl : n ≤ l.length := by omega
  have hnd : n = l.length ∨ n = 8 := by omega
  have ND := Lib.hid hnd
  clear r3 h hb hm hn hnd
  obtain ⟨L, hL⟩ : ∃ L, L = l.length := ⟨_, rfl⟩
  have HL := Lib.hid hL
  rw [← hL] at r1 hnl ND ⊢
  clear hL
  obtain ⟨i0, hi0, hz0, hz1, hz2⟩ := info_parts qInfo
  have HI := Lib.hid (And.intro hi0 (And.intro hz0 (And.intro hz1 hz2)))
  clear hi0 hz0 hz1 hz2
  go_enter Tryd.func4, Tryd.ntmps4
  go_wp2_with fail
  go_loopw [3, 4] (fun o i wr => ∃ k : Nat, k ≤ n ∧ i = .int .i64 k ∧ OwnC 28 4 pc w.heap.size wr o ((l.take k).map cutP) ∧ Below w.heap.size w wr) (fun _ i _ => n - (intOf i).toNat)
  case atStart => exact ⟨0, Nat.zero_le _, rfl, OwnC.made _ _ _ _ _ (Nat.le_refl _), (Below.refl _ _).alloc (Nat.le_refl _) _⟩
  case round =>
    obtain ⟨k, hk, rfl, ho, hbel⟩ := hrel
    have hle := hbel.size
    by_cases hlt : k < n
    · have hkl : k < l.length := by rw [← HL.out]; omega
      obtain ⟨b, off, rfl, hbl, hc⟩ := HC.out k hkl
      obtain ⟨c0, c1, c2, c3⟩ := pc_cells (fun i u hu => (hbel.cell (p := ⟨b, off + k * 4 + i, none⟩) hbl).trans (hc i u hu))
      obtain ⟨g1, g2, g3, g4⟩ := HB.out _ (List.getElem_mem hkl)
      have i4 : (k : Int) < (L : Int) := by omega
      have i5 : (k : Int) < 8 := by omega
      have HST : Hid ((l.take (k + 1)).map cutP = (l.take k).map cutP ++ [cutP l[k]]) := by
        show _ = _
        rw [List.take_succ_eq_append_getElem hkl, List.map_append]; rfl
      have hol : ((l.take k).map cutP).length ≤ k := by simp; omega
      have HO := Lib.hid ho
      clear hc ho
      generalize l[k]'hkl = x at *
      have hcut := Lib.hid (cut_any x)
      have SM := Lib.hid (sm_more (cutP_sm x))
      generalize cutP x = y at *
      go_wp2_with fail
      refine (hcut.out _ g1 g2 g3 g4).mono ?_
      rintro e w3 ⟨rfl, hb3⟩
      have hz := hb3.size
      clear c0 c1 c2 c3 g1 g2 g3 g4 hcut
      have hq0 : Bx (w3.alloc (.cells #[.string (bs y.first), .string (bs y.von), .string (bs y.last), .string (bs y.jr)] 28)) w3.heap.size y := Bx.new _ _
      have hbw : Below w.heap.size w (w3.alloc (.cells #[.string (bs y.first), .string (bs y.von), .string (bs y.last), .string (bs y.jr)] 28)) := (below_via hbel hb3).alloc (Nat.le_trans hle hz) _
      have hoo := (HO.out.below hb3).below ((Below.refl _ _).alloc (Nat.le_refl _) (.cells #[.string (bs y.first), .string (bs y.von), .string (bs y.last), .string (bs y.jr)] 28))
      have hne3 : ∀ j, u3.ownBlock = some j → j ≠ w3.heap.size := fun j hj => Nat.ne_of_lt (Nat.lt_of_lt_of_le (HO.out.lt j hj).2 hz)
      have HN3 := Lib.hid hne3
      have HOO := Lib.hid hoo
      have HQ := Lib.hid hq0
      have HBW := Lib.hid hbw
      clear hne3 hoo hq0 hbw hb3 HO
      go_wp2_with (at_builtin; refine wpList_appN rfl (.tmp 22) (.tmp 24) 33 rfl w.heap.size 28 i0 _ 4 64 Tryd.underlying33 HI.out.1 HI.out.2.1 HI.out.2.2.1 HI.out.2.2.2 rfl (by decide) _ ((l.take k).map cutP).length _ (pc y) rfl (by simp [Value.oneCell']) rfl _ (by simp) rfl HOO.out (by rw [World.size_alloc]; omega) (by simp only [maxLen]; omega) (by omega) ?_; intro v' w4 h8 h9 h10)
      have h8' : OwnC 28 4 pc w.heap.size w4 v' ((l.take k).map cutP ++ [y]) := by simpa [OwnC] using h8
      have hq : Bx w4 w3.heap.size y := ⟨(h9.block _ HQ.out.lt (fun e => HN3.out _ e.symm rfl)).trans HQ.out.blk⟩
      have hbw4 : Below w.heap.size w w4 := HBW.out.trans (grown_below HOO.out (by rw [World.size_alloc]; omega) h9)
      have H8 := Lib.hid h8'
      obtain ⟨d0, d1, d2, d3⟩ := hq.cells
      have hL0 := fun (d : Nat) (os : Array Obj) => cell_regrown d0 d os
      have hL1 := fun (d : Nat) (os : Array Obj) => cell_regrown d1 d os
      have hL2 := fun (d : Nat) (os : Array Obj) => cell_regrown d2 d os
      have hL3 := fun (d : Nat) (os : Array Obj) => cell_regrown d3 d os
      have B4 := Lib.hid hbw4
      have n1 := bne_bs (showS y)
      have n2 := bne_bs (shortS y)
      have n3 := bne_bs (keyS y)
      clear h8 h8' h9 h10 hbw4 hq d0 d1 d2 d3
      go_upto_region 7 with fail
      refine wp_region_quiet_below (by kernel_rfl) (by kernel_rfl) ?_
      repeat (go_big_quiet_step (first
        | (go_at_call 14; exact calls_regrown (ref_any y _))
        | (go_at_call 19; exact calls_regrown (show_any y _ SM.out))
        | (go_at_call 20; exact calls_regrown (rShow_any y _ SM.out))
        | (go_at_call 21; exact calls_regrown (short_any y _ SM.out))
        | (go_at_call 22; exact calls_regrown (rShort_any y _ SM.out))
        | (go_at_call 23; exact calls_regrown (key_any y _ SM.out))
        | (go_at_call 24; exact calls_regrown (rKey_any y _ SM.out))))
      refine wpQuiet_nil ?_
      intro _ hw'
      obtain ⟨p, hw''⟩ := hw'
      subst hw''
      have hbr : Below w4.heap.size w4 (Go.Sort.grow (redrawn w4 p.d) p.os) := regrown_below w4 p
      have h8r := H8.out.below hbr
      have hbw5 := below_via B4.out hbr
      clear hL0 hL1 hL2 hL3 hbr
      generalize Go.Sort.grow (redrawn w4 p.d) p.os = w5 at *
      go_wp2_with fail
      go_roundw
      case rel => exact ⟨k + 1, by omega, by go_num, by rw [HST.out]; exact h8r, hbw5⟩
      case measure => simp [intOf]; omega
    · obtain rfl : k = n := by omega
      have hsm : ∀ p ∈ (l.take k).map cutP, Sm p 10000 := fun p hp => by
        obtain ⟨q, _, rfl⟩ := List.mem_map.1 hp
        exact sm_more (cutP_sm q)
      have hlen : ((l.take k).map cutP).length < 1000 := by simp; omega
      have SM := Lib.hid hsm
      have HO := Lib.hid ho
      have HBE := Lib.hid hbel
      clear hsm ho hbel
      generalize (l.take k).map cutP = M at *
      rcases ND.out with hnd | hnd
      · have i4 : (L : Int) ≤ (k : Int) := by omega
        clear hnd
        go_wp2_with fail
        refine (label_any _ M _ (HO.out.rowC pc_length) (by omega) SM.out).mono ?_
        rintro e w5 ⟨rfl, b5⟩
        go_wp2_with fail
        refine (refs_any _ M _ ((HO.out.rowC pc_length).step b5) (by omega)).mono ?_
        rintro e w6 ⟨v6, rfl, r6, b6⟩
        go_wp2_with fail
        refine (rlabel_any _ M _ (r6.rowC pc_length) (by omega) SM.out).mono ?_
        rintro e w7 ⟨rfl, q7, rfl⟩
        have k7 := below_drewN (below_via (below_via HBE.out b5) b6) q7
        generalize w6.drewN q7 = w7 at *
        go_wp2_with fail
        refine (fixed_any _ (HM.out.below k7)).mono ?_
        rintro e w8 ⟨rfl, b8⟩
        go_wp2_with fail
        go_ret
        exact ⟨rfl, below_via k7 b8⟩
      · have i4 : (8 : Int) ≤ (k : Int) := by omega
        clear hnd
        by_cases hkL : k < L
        · have i5 : (k : Int) < (L : Int) := by omega
          go_wp2_with fail
          refine (label_any _ M _ (HO.out.rowC pc_length) (by omega) SM.out).mono ?_
          rintro e w5 ⟨rfl, b5⟩
          go_wp2_with fail
          refine (refs_any _ M _ ((HO.out.rowC pc_length).step b5) (by omega)).mono ?_
          rintro e w6 ⟨v6, rfl, r6, b6⟩
          go_wp2_with fail
          refine (rlabel_any _ M _ (r6.rowC pc_length) (by omega) SM.out).mono ?_
          rintro e w7 ⟨rfl, q7, rfl⟩
          have k7 := below_drewN (below_via (below_via HBE.out b5) b6) q7
          generalize w6.drewN q7 = w7 at *
          go_wp2_with fail
          refine (fixed_any _ (HM.out.below k7)).mono ?_
          rintro e w8 ⟨rfl, b8⟩
          go_wp2_with fail
          go_ret
          exact ⟨rfl, below_via k7 b8⟩
        · have i5 : (L : Int) ≤ (k : Int) := by omega
          go_wp2_with fail
          refine (label_any _ M _ (HO.out.rowC pc_length) (by omega) SM.out).mono ?_
          rintro e w5 ⟨rfl, b5⟩
          go_wp2_with fail
          refine (refs_any _ M _ ((HO.out.rowC pc_length).step b5) (by omega)).mono ?_
          rintro e w6 ⟨v6, rfl, r6, b6⟩
          go_wp2_with fail
          refine (rlabel_any _ M _ (r6.rowC pc_length) (by omega) SM.out).mono ?_
          rintro e w7 ⟨rfl, q7, rfl⟩
          have k7 := below_drewN (below_via (below_via HBE.out b5) b6) q7
          generalize w6.drewN q7 = w7 at *
          go_wp2_with fail
          refine (fixed_any _ (HM.out.below k7)).mono ?_
          rintro e w8 ⟨rfl, b8⟩
          go_wp2_with fail
          go_ret
          exact ⟨rfl, below_via k7 b8⟩
end Go.Proofs.YtmnekomoiffebaaDoor
