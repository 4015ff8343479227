/- The walks of stetref04's Sync and Crash. -/
import Derived.Test.YtienbgfmhllgmaaRows
import Derived.Test.YtienbgfmhllgmaaKit
import Derived.Test.YtienbgfmhllgmaaDk2
import Derived.Test.YtienbgfmhllgmaaDk4
import Derived.Test.YtienbgfmhllgmaaDr1
import Derived.Test.YtienbgfmhllgmaaDr2
import Derived.Test.YtienbgfmhllgmaaDr3
namespace Go.Proofs.Ytienbgfmhllgmaa
open Go.RowKit

theorem Rd.hdr {w : World} {br : Nat} {v a b : Value} {l : Int} (h : w.heap[br]? = some (Rd.blk v a b l)) :
    w.cell? ⟨br, 1, none⟩ = some a ∧ w.cell? ⟨br, 2, none⟩ = some b ∧ w.cell? ⟨br, 3, none⟩ = some (.int .i64 l) ∧ w.frozen? ⟨br, 1, none⟩ = false ∧ w.frozen? ⟨br, 2, none⟩ = false ∧ w.frozen? ⟨br, 3, none⟩ = false :=
  ⟨by rw [Dk.cell_of h]; rfl, by rw [Dk.cell_of h]; rfl, by rw [Dk.cell_of h]; rfl, Dk.free_of h, Dk.free_of h, Dk.free_of h⟩
theorem Rd.sets_take (L : List ByteArray) (l : List Dk.Wr) (k : Nat) (hk : k < l.length) : Rd.sets L (l.take (k + 1)) = (Rd.sets L (l.take k)).set l[k].1.toNat l[k].2 := by
  rw [List.take_succ_eq_append_getElem hk, Rd.sets_append]
  rfl
/-- The row of texts in block bl. -/
def Rd.Col (w : World) (bl : Nat) (L : List ByteArray) : Prop := ∃ cur, w.heap[bl]? = some (.cells cur 9 (0, 0)) ∧ ∀ j (h : j < L.length), cur[j]? = some (.string L[j])
theorem Rd.Col.set {w : World} {bl : Nat} {L : List ByteArray} (h : Rd.Col w bl L) (j : Nat) (hj : j < L.length) (s : ByteArray) : Rd.Col (w.setCell ⟨bl, j, none⟩ (.string s)) bl (L.set j s) := by
  obtain ⟨cur, h1, h2⟩ := h
  refine ⟨_, Dk.cells_setCell h1 _, fun k hk => ?_⟩
  simp only [List.length_set] at hk
  have hs : j < cur.size := (Array.getElem?_eq_some_iff.1 (h2 j hj)).1
  by_cases e : j = k
  · subst e
    simp [hs]
  · rw [Array.getElem?_setIfInBounds_ne e, h2 k hk]
    simp [e]
theorem Rd.Col.cell {w : World} {bl : Nat} {L : List ByteArray} (h : Rd.Col w bl L) (j : Nat) (hj : j < L.length) : w.cell? ⟨bl, j, none⟩ = some (.string L[j]) ∧ w.frozen? ⟨bl, j, none⟩ = false := by
  obtain ⟨cur, h1, h2⟩ := h
  exact ⟨by rw [Dk.cell_of h1]; exact h2 j hj, Dk.free_of h1⟩
theorem Rd.Col.keep {w w' : World} {bl : Nat} {L : List ByteArray} (h : Rd.Col w bl L) (hk : w'.heap[bl]? = w.heap[bl]?) : Rd.Col w' bl L := by
  obtain ⟨cur, h1, h2⟩ := h
  exact ⟨cur, hk.trans h1, h2⟩

set_option maxHeartbeats 2000000 in
theorem rSync_any (br : Nat) (t : Rd.St) (F : List Nat) (w : World) (hd : Rd.Of br t w F) (hp : t.pend.length < 1000000) :
    Calls Try.prog 30 #[.pointer (some ⟨br, 0, none⟩)] w fun e w' => e = .returned (.int .i64 (Rd.sync t).1) ∧ HP.Does (Rd.part br (Rd.sync t).2) w F w' := by
  have hd0 : (Rd.part br t).p w F := hd
  obtain ⟨bl, cl, cur, a, b, h1, h2, h3, h4, h5, h6, h7, h8, rfl⟩ := hd
  by_cases hz : t.left = 0
  · have hr : Rd.sync t = (8, t) := by rw [Rd.sync, if_pos hz]
    rw [hr]
    have hfin : ∀ w', w'.heap[br]? = some (Rd.blk (.slice (some ⟨bl, 0, none⟩) t.L.length cl) a b t.left) → Moved w w' [br] → HP.Does (Rd.part br t) w (br :: bl :: (a.ownBlock.toList ++ b.ownBlock.toList)) w' := by
      intro w' k1 m1
      refine ⟨_, (Rd.part br t).keep _ _ _ hd0 (fun k hk => ?_), m1.more (by simp), fun k hk => .inl hk⟩
      by_cases e : k = br
      · rw [e, k1, h1]
      · exact m1.block k ((Rd.part br t).lt _ _ hd0 k hk) (by simp [e])
    have HF := Lib.hid hfin
    have hw8 := h8.1
    clear hr h2 h3 h4 h5 h6 h7 h8 hd0 hfin
    go_enter Try.func30, Try.ntmps30
    go_wp2_with (go_at_call 35; refine (rUse_dead _ _ _ _ _ _ h1 hw8 hz).mono ?_; rintro e w' ⟨rfl, k4, k5, k6⟩)
    go_ret
    exact ⟨rfl, HF.out _ k4 k5⟩
  · have hr : Rd.sync t = (0, { left := Rd.used t.left, L := Rd.sets t.L t.pend, pend := [] }) := by rw [Rd.sync, if_neg hz]
    rw [hr]
    have hw8 := h8.1
    obtain ⟨Aa, ca, rfl⟩ := Rd.own_form h5
    obtain ⟨Ab, cb, rfl⟩ := Rd.own_form h6
    have HA := Lib.hid (And.intro (fun hne => Rd.own_cell h5 hne) (fun hne => Rd.own_cell h6 hne))
    have hcol : Hid (Rd.Col w bl t.L) := ⟨cur, h2, h3⟩
    have H7 := Lib.hid (And.intro h7 (And.intro h8 h4))
    clear hr hd0 h2 h3 h4 h5 h6 h7 h8
    obtain ⟨L0, l, lf⟩ := t
    simp only at *
    go_enter Try.func30, Try.ntmps30
    go_wp2_with (go_at_call 35; refine (rUse_live _ _ _ _ _ _ h1 hw8 hz).mono ?_; rintro e w1 ⟨rfl, K1, M1, z1⟩)
    go_loopw [3] (fun x wr => ∃ k : Nat, k ≤ l.length ∧ x = .int .i64 (k : Int) ∧ wr.heap[br]? = some (Rd.blk (.slice (some ⟨bl, 0, none⟩) L0.length cl) (.slice Aa l.length ca) (.slice Ab l.length cb) (Rd.used lf)) ∧ Rd.Col wr bl (Rd.sets L0 (l.take k)) ∧ Moved w wr [br, bl]) (fun x _ => l.length - (intOf x).toNat)
    case atStart => exact ⟨0, Nat.zero_le _, rfl, K1, hcol.out.keep (M1.block bl (lt_of_block hcol.out.choose_spec.1) (by simp [H7.out.1.1.symm])), M1.more (by simp)⟩
    case round =>
      obtain ⟨k, hk, rfl, kr, hcl, hmv⟩ := hrel
      have c0 : wr.cell? ⟨br, 0, none⟩ = some (.slice (some ⟨bl, 0, none⟩) L0.length cl) := by rw [Dk.cell_of kr]; rfl
      have c1 : wr.cell? ⟨br, 1, none⟩ = some (.slice Aa l.length ca) := by rw [Dk.cell_of kr]; rfl
      have c2 : wr.cell? ⟨br, 2, none⟩ = some (.slice Ab l.length cb) := by rw [Dk.cell_of kr]; rfl
      by_cases hlt : k < l.length
      · have hne : l ≠ [] := by rintro rfl; simp at hlt
        obtain ⟨ga, rfl, la, ha⟩ := HA.out.1 hne
        obtain ⟨gb, rfl, lb, hb⟩ := HA.out.2 hne
        have n7 := H7.out.1
        have q1 := (World.cell?_of_block (a := ⟨ga, k, none⟩) (hmv.block ga la (by simp; exact ⟨fun e => n7.2.1 (by simp [Value.ownBlock, e]), fun e => n7.2.2.1 (by simp [Value.ownBlock, e])⟩))).trans (ha k hlt)
        have q2 := (World.cell?_of_block (a := ⟨gb, k, none⟩) (hmv.block gb lb (by simp; exact ⟨fun e => n7.2.2.2.1 (by simp [Value.ownBlock, e]), fun e => n7.2.2.2.2.1 (by simp [Value.ownBlock, e])⟩))).trans (hb k hlt)
        have hu := (H7.out.2.1.2 _ (List.getElem_mem hlt)).2
        have HT := Lib.hid (Rd.sets_take L0 l k hlt)
        have i1 : (k : Int) < (l.length : Int) := by omega
        clear ha hb n7
        generalize l[k] = u at *
        obtain ⟨u1, u2⟩ := u
        simp only at *
        obtain ⟨j, rfl⟩ : ∃ j : Nat, u1 = (j : Int) := ⟨u1.toNat, by omega⟩
        have hj : j < (Rd.sets L0 (l.take k)).length := by rw [Rd.sets_length]; omega
        obtain ⟨s0, q3⟩ : ∃ s0, wr.cell? ⟨bl, j, none⟩ = some (.string s0) := ⟨_, (hcl.cell j hj).1⟩
        have q4 := (hcl.cell j hj).2
        have HC := Lib.hid (hcl.set j hj u2)
        have i2 : (j : Int) < (L0.length : Int) := hu.2
        have i3 : (0 : Int) ≤ (j : Int) := hu.1
        have i4 : (0 : Int) ≤ (k : Int) := by omega
        clear hj hcl hu
        go_wp2_with fail
        refine wp_region_quiet_tail 19 (by kernel_rfl) (by kernel_rfl) ?_
        simp only [List.take_succ_cons, List.take_zero, List.drop_succ_cons, List.drop_zero]
        repeat (go_big_quiet_step (fail))
        refine wpQuiet_nil ?_
        go_wp2_with fail
        go_roundw
        case rel => exact ⟨k + 1, by omega, by go_num, by rw [← kr]; exact Below.heap_setCell _ _ _ _ (fun e => H7.out.1.1 e), by rw [HT.out]; exact HC.out, (hmv.drewN 1).setCell _ _ _ (.inl (by simp))⟩
        case measure => simp [intOf]; omega
      · obtain rfl : k = l.length := by omega
        have f1 : wr.frozen? ⟨br, 1, none⟩ = false := Dk.free_of kr
        have f2 : wr.frozen? ⟨br, 2, none⟩ = false := Dk.free_of kr
        go_wp2_with fail
        go_ret
        rw [List.take_length] at hcl
        obtain ⟨cur', g1, g2⟩ := hcl
        have hne := H7.out.1.1
        refine ⟨rfl, [br, bl], ⟨bl, cl, cur', .slice none 0 0, .slice none 0 0, ?_, ?_, g2, by simpa only [Rd.sets_length] using H7.out.2.2, World.ownsRow_nil _ _ _ _, World.ownsRow_nil _ _ _ _, ⟨hne, by simp [Value.ownBlock]⟩, ⟨Rd.used_wf hw8, fun v hv => by simp at hv⟩, by simp [Value.ownBlock]⟩, ((hmv.more (by simp)).setCell _ _ _ (.inl (by simp))).setCell _ _ _ (.inl (by simp)), fun k hk => .inl (by simp at hk ⊢; rcases hk with rfl | rfl; simp; simp)⟩
        · rw [Dk.cells_setCell (Dk.cells_setCell kr _)]; simp [Rd.blk, Rd.sets_length]
        · rw [Below.heap_setCell _ _ _ _ (fun e => hne e.symm), Below.heap_setCell _ _ _ _ (fun e => hne e.symm), g1]

theorem Rd.kept_all (l : List Dk.Wr) : ∀ (ks : List Bool) (k : Nat), ks.length ≤ k → Dk.kept (l.take k) ks = Dk.kept l ks := by
  induction l with
  | nil => intro ks k _; simp
  | cons a l ih =>
    intro ks k h
    cases ks with
    | nil => cases k <;> simp [Dk.kept]
    | cons b ks =>
      cases k with
      | zero => simp at h
      | succ k => simp only [List.take_succ_cons, Dk.kept]; rw [ih ks k (by simpa using h)]

set_option maxHeartbeats 2000000 in
theorem rCrash_any (br : Nat) (t : Rd.St) (F : List Nat) (v : Value) (ks : List Bool) (w : World) (hd : Rd.Of br t w F) (hp : t.pend.length < 1000000) (hr : ∀ w', Moved w w' F → ∃ B, Row Value.bool w' B v ks) :
    Calls Try.prog 21 #[.pointer (some ⟨br, 0, none⟩), v] w fun e w' => e = .returned (.tuple #[]) ∧ HP.Does (Rd.part br (Rd.crash t ks)) w F w' := by
  obtain ⟨bl, cl, cur, a, b, h1, h2, h3, h4, h5, h6, h7, h8, rfl⟩ := hd
  obtain ⟨B0, hr0⟩ := hr w (Moved.refl _ _)
  obtain ⟨Ak, ck, rfl, hkc, hkm, _⟩ := hr0.shape
  obtain ⟨Aa, ca, rfl⟩ := Rd.own_form h5
  obtain ⟨Ab, cb, rfl⟩ := Rd.own_form h6
  have HA := Lib.hid (And.intro (fun hne => Rd.own_cell h5 hne) (fun hne => Rd.own_cell h6 hne))
  have hcol : Hid (Rd.Col w bl t.L) := ⟨cur, h2, h3⟩
  have H7 := Lib.hid (And.intro h7 (And.intro h8 h4))
  have HR := Lib.hid hr
  clear h2 h3 h4 h5 h6 h7 h8 hr hr0
  obtain ⟨L0, l, lf⟩ := t
  simp only at *
  go_enter Try.func21, Try.ntmps21
  go_upto_block 0 with fail
  go_cut [] (fun wr => wr.heap[br]? = some (Rd.blk (.slice (some ⟨bl, 0, none⟩) L0.length cl) (.slice Aa l.length ca) (.slice Ab l.length cb) lf) ∧ Rd.Col wr bl (Rd.sets L0 (Dk.kept l ks)) ∧ Moved w wr [br, bl])
  case first =>
    go_wp2
    go_loopw [4] (fun x wr => ∃ k : Nat, k ≤ l.length ∧ x = .int .i64 (k : Int) ∧ wr.heap[br]? = some (Rd.blk (.slice (some ⟨bl, 0, none⟩) L0.length cl) (.slice Aa l.length ca) (.slice Ab l.length cb) lf) ∧ Rd.Col wr bl (Rd.sets L0 (Dk.kept (l.take k) ks)) ∧ Moved w wr [br, bl]) (fun x _ => l.length - (intOf x).toNat)
    case atStart => exact ⟨0, Nat.zero_le _, rfl, h1, hcol.out, Moved.refl _ _⟩
    case round =>
      obtain ⟨k, hk, rfl, kr, hcl, hmv⟩ := hrel
      have c0 : wr.cell? ⟨br, 0, none⟩ = some (.slice (some ⟨bl, 0, none⟩) L0.length cl) := by rw [Dk.cell_of kr]; rfl
      have c1 : wr.cell? ⟨br, 1, none⟩ = some (.slice Aa l.length ca) := by rw [Dk.cell_of kr]; rfl
      have c2 : wr.cell? ⟨br, 2, none⟩ = some (.slice Ab l.length cb) := by rw [Dk.cell_of kr]; rfl
      by_cases hlt : k < l.length ∧ k < ks.length
      · obtain ⟨hlt, hki⟩ := hlt
        have hne : l ≠ [] := by rintro rfl; simp at hlt
        obtain ⟨B1, hr1⟩ := HR.out wr (hmv.more (by simp))
        obtain ⟨_, _, e1, _, _, hc1⟩ := hr1.shape
        cases e1
        obtain ⟨bk, ok, rfl, _, hc1⟩ := hc1 (by rintro rfl; simp at hki)
        have ck1 := hc1 k hki
        have HB : Hid (ks[k]?.getD false = ks[k]) := by show _ = _; simp [hki]
        have i0 : (k : Int) < (ks.length : Int) := by omega
        have HT := Lib.hid (Dk.kept_take l ks k hlt)
        clear hc1
        generalize ks[k] = b at *
        obtain ⟨ga, rfl, la, ha⟩ := HA.out.1 hne
        obtain ⟨gb, rfl, lb, hb⟩ := HA.out.2 hne
        have n7 := H7.out.1
        have q1 := (World.cell?_of_block (a := ⟨ga, k, none⟩) (hmv.block ga la (by simp; exact ⟨fun e => n7.2.1 (by simp [Value.ownBlock, e]), fun e => n7.2.2.1 (by simp [Value.ownBlock, e])⟩))).trans (ha k hlt)
        have q2 := (World.cell?_of_block (a := ⟨gb, k, none⟩) (hmv.block gb lb (by simp; exact ⟨fun e => n7.2.2.2.1 (by simp [Value.ownBlock, e]), fun e => n7.2.2.2.2.1 (by simp [Value.ownBlock, e])⟩))).trans (hb k hlt)
        have hu := (H7.out.2.1.2 _ (List.getElem_mem hlt)).2
        have i1 : (k : Int) < (l.length : Int) := by omega
        clear ha hb n7
        generalize l[k] = u at *
        obtain ⟨u1, u2⟩ := u
        simp only at *
        obtain ⟨j, rfl⟩ : ∃ j : Nat, u1 = (j : Int) := ⟨u1.toNat, by omega⟩
        have hj : j < (Rd.sets L0 (Dk.kept (l.take k) ks)).length := by rw [Rd.sets_length]; omega
        obtain ⟨s0, q3⟩ : ∃ s0, wr.cell? ⟨bl, j, none⟩ = some (.string s0) := ⟨_, (hcl.cell j hj).1⟩
        have q4 := (hcl.cell j hj).2
        have HC := Lib.hid (And.intro (hcl.set j hj u2) hcl)
        have i2 : (j : Int) < (L0.length : Int) := hu.2
        have i3 : (0 : Int) ≤ (j : Int) := hu.1
        have i4 : (0 : Int) ≤ (k : Int) := by omega
        clear hj hcl hu
        cases b
        · go_wp2_with fail
          go_roundw
          case rel => exact ⟨k + 1, by omega, by go_num, kr, by rw [HT.out, HB.out]; simpa using HC.out.2, hmv⟩
          case measure => simp [intOf]; omega
        · go_wp2_with fail
          refine wp_region_quiet_tail 19 (by kernel_rfl) (by kernel_rfl) ?_
          simp only [List.take_succ_cons, List.take_zero, List.drop_succ_cons, List.drop_zero]
          repeat (go_big_quiet_step (fail))
          refine wpQuiet_nil ?_
          go_wp2_with fail
          go_roundw
          case rel => exact ⟨k + 1, by omega, by go_num, by rw [← kr]; exact Below.heap_setCell _ _ _ _ (fun e => H7.out.1.1 e), by rw [HT.out, HB.out, if_pos rfl, Rd.sets_append]; exact HC.out.1, (hmv.drewN 1).setCell _ _ _ (.inl (by simp))⟩
          case measure => simp [intOf]; omega
      · have HK : Hid (Dk.kept (l.take k) ks = Dk.kept l ks) := by
          show _ = _
          by_cases hz : k < l.length
          · exact Rd.kept_all l ks k (by omega)
          · rw [List.take_of_length_le (by omega)]
        by_cases hz : k < l.length
        · have hz2 : ¬ k < ks.length := fun h => hlt ⟨hz, h⟩
          have i1 : (k : Int) < (l.length : Int) := by omega
          have i2 : ¬ (k : Int) < (ks.length : Int) := by omega
          go_wp2_with fail
          go_meet
          exact ⟨kr, by rw [← HK.out]; exact hcl, hmv⟩
        · have i1 : ¬ (k : Int) < (l.length : Int) := by omega
          go_wp2_with fail
          go_meet
          exact ⟨kr, by rw [← HK.out]; exact hcl, hmv⟩
  case rest =>
    obtain ⟨kr, hcl, hmv⟩ := hcut
    obtain ⟨c1, c2, c3, f1, f2, f3⟩ := Rd.hdr kr
    go_wp2_with fail
    go_end0
    obtain ⟨cur', g1, g2⟩ := hcl
    have hne := H7.out.1.1
    refine ⟨rfl, [br, bl], ⟨bl, cl, cur', .slice none 0 0, .slice none 0 0, ?_, ?_, g2, by simpa only [Rd.crash, Rd.sets_length] using H7.out.2.2, World.ownsRow_nil _ _ _ _, World.ownsRow_nil _ _ _ _, ⟨hne, by simp [Value.ownBlock]⟩, ⟨by show (Lit.int .i64 (-1)).wf = true; decide, fun v hv => by simp [Rd.crash] at hv⟩, by simp [Value.ownBlock]⟩, (((hmv.more (by simp)).setCell _ _ _ (.inl (by simp))).setCell _ _ _ (.inl (by simp))).setCell _ _ _ (.inl (by simp)), fun k hk => .inl (by simp at hk ⊢; rcases hk with rfl | rfl; simp; simp)⟩
    · rw [Dk.cells_setCell (Dk.cells_setCell (Dk.cells_setCell kr _) _)]; simp [Rd.blk, Rd.crash, Rd.sets_length]
    · rw [Below.heap_setCell _ _ _ _ (fun e => hne e.symm), Below.heap_setCell _ _ _ _ (fun e => hne e.symm), Below.heap_setCell _ _ _ _ (fun e => hne e.symm), g1]
end Go.Proofs.Ytienbgfmhllgmaa
