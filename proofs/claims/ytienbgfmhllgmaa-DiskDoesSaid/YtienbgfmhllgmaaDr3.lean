/- The walk of stetref04's Write. -/
import Derived.Test.YtienbgfmhllgmaaRows
import Derived.Test.YtienbgfmhllgmaaKit
import Derived.Test.YtienbgfmhllgmaaDk2
import Derived.Test.YtienbgfmhllgmaaDk4
import Derived.Test.YtienbgfmhllgmaaDkApp
import Derived.Test.YtienbgfmhllgmaaDr1
import Derived.Test.YtienbgfmhllgmaaDr2
namespace Go.Proofs.Ytienbgfmhllgmaa
open Go.RowKit

theorem rUse_dead (br : Nat) (v a b : Value) (l : Int) (w : World) (h : w.heap[br]? = some (Rd.blk v a b l)) (hl : (Lit.int .i64 l).wf = true) (hz : l = 0) :
    Calls Try.prog 35 #[.pointer (some ⟨br, 0, none⟩)] w fun e w' => e = .returned (.bool false) ∧ w'.heap[br]? = some (Rd.blk v a b l) ∧ Moved w w' [br] ∧ w'.heap.size = w.heap.size :=
  (rUse_any br v a b l w h hl).mono fun _ _ ⟨h1, h2, h3, h4⟩ => ⟨by rw [h1, hz]; rfl, by rw [if_pos hz] at h2; exact h2, h3, h4⟩
theorem rUse_live (br : Nat) (v a b : Value) (l : Int) (w : World) (h : w.heap[br]? = some (Rd.blk v a b l)) (hl : (Lit.int .i64 l).wf = true) (hz : ¬ l = 0) :
    Calls Try.prog 35 #[.pointer (some ⟨br, 0, none⟩)] w fun e w' => e = .returned (.bool true) ∧ w'.heap[br]? = some (Rd.blk v a b (Rd.used l)) ∧ Moved w w' [br] ∧ w'.heap.size = w.heap.size :=
  (rUse_any br v a b l w h hl).mono fun _ _ ⟨h1, h2, h3, h4⟩ => ⟨by rw [h1, show (l == 0) = false by simp [hz]]; rfl, by rw [if_neg hz] at h2; exact h2, h3, h4⟩
theorem Rd.used_wf {l : Int} (h : (Lit.int .i64 l).wf = true) : (Lit.int .i64 (Rd.used l)).wf = true := by
  have := bounds_i64 h
  unfold Rd.used
  exact WalkArith.wf_i64 (by split <;> omega)
theorem intInfo2 : (Try.prog.info? 3).map (fun i => (i.zero, i.size, i.bytes)) = some (some (.int .i64 0), 1, 8) := by kernel_rfl

set_option maxHeartbeats 2000000 in
theorem rWrite_any (br : Nat) (t : Rd.St) (F : List Nat) (i : Int) (u : ByteArray) (w : World) (hd : Rd.Of br t w F) (hp : t.pend.length < 1000000) (hu : u.size < 1000000) (hi : (Lit.int .i64 i).wf = true) :
    Calls Try.prog 29 #[.pointer (some ⟨br, 0, none⟩), .int .i64 i, .string u] w fun e w' => e = .returned (.int .i64 (Rd.write t i u).1) ∧ HP.Does (Rd.part br (Rd.write t i u).2) w F w' := by
  have hd0 : (Rd.part br t).p w F := hd
  obtain ⟨bl, cl, cur, a, b, h1, h2, h3, h4, h5, h6, h7, h8, rfl⟩ := hd
  have c0 : w.cell? ⟨br, 0, none⟩ = some (.slice (some ⟨bl, 0, none⟩) t.L.length cl) := by rw [Dk.cell_of h1]; rfl
  by_cases hh : Rd.has t i = false
  · have hr : Rd.write t i u = (1, t) := by rw [Rd.write, if_pos hh]
    rw [hr]
    have hor : i < 0 ∨ (0 ≤ i ∧ (t.L.length : Int) ≤ i) := by
      simp only [Rd.has, Bool.and_eq_false_iff, decide_eq_false_iff_not] at hh
      omega
    have HD := Lib.hid hd0
    clear hr hh h1 h2 h3 h4 h5 h6 h7 h8 hd0
    rcases hor with k1 | ⟨k1, k2⟩
    all_goals
      go_enter Try.func29, Try.ntmps29
      go_wp2
      go_ret
      exact ⟨rfl, HP.Does.refl HD.out⟩
  · obtain ⟨k1, k2⟩ := Rd.has_true hh
    by_cases hs : 64 < u.size
    · have hr : Rd.write t i u = (3, t) := by rw [Rd.write, if_neg hh, if_pos hs]
      rw [hr]
      have HD := Lib.hid hd0
      have k3 : (64 : Int) < (u.size : Int) := by omega
      clear hr hh h1 h2 h3 h4 h5 h6 h7 h8 hd0 hs
      go_enter Try.func29, Try.ntmps29
      go_wp2
      go_ret
      exact ⟨rfl, HP.Does.refl HD.out⟩
    · have k3 : ¬ (64 : Int) < (u.size : Int) := by omega
      by_cases hz : t.left = 0
      · have hr : Rd.write t i u = (8, t) := by rw [Rd.write, if_neg hh, if_neg hs, if_pos hz]
        rw [hr]
        have hfin : ∀ w', w'.heap[br]? = some (Rd.blk (.slice (some ⟨bl, 0, none⟩) t.L.length cl) a b t.left) → Moved w w' [br] → HP.Does (Rd.part br t) w (br :: bl :: (a.ownBlock.toList ++ b.ownBlock.toList)) w' := by
          intro w' k1 m1
          refine ⟨_, (Rd.part br t).keep _ _ _ hd0 (fun k hk => ?_), m1.more (by simp), fun k hk => .inl hk⟩
          by_cases e : k = br
          · rw [e, k1, h1]
          · exact m1.block k ((Rd.part br t).lt _ _ hd0 k hk) (by simp [e])
        have HF := Lib.hid hfin
        have hw8 := h8.1
        clear hr hh h2 h3 h4 h5 h6 h7 h8 hd0 hs hfin
        go_enter Try.func29, Try.ntmps29
        go_wp2_with (go_at_call 35; refine (rUse_dead _ _ _ _ _ _ h1 hw8 hz).mono ?_; rintro e w' ⟨rfl, k4, k5, k6⟩)
        go_ret
        exact ⟨rfl, HF.out _ k4 k5⟩
      · have hr : Rd.write t i u = (0, { t with left := Rd.used t.left, pend := t.pend ++ [(i, u)] }) := by rw [Rd.write, if_neg hh, if_neg hs, if_neg hz]
        rw [hr]
        obtain ⟨i0, hi0, hz0, hz1, hz2⟩ := info_parts intInfo2
        obtain ⟨j0, hj0, hy0, hy1, hy2⟩ := info_parts strInfo
        have hw8 := h8.1
        have hfin : ∀ w', w'.heap[br]? = some (Rd.blk (.slice (some ⟨bl, 0, none⟩) t.L.length cl) a b (Rd.used t.left)) → Moved w w' [br] → Rd.Of br { t with left := Rd.used t.left } w' (br :: bl :: (a.ownBlock.toList ++ b.ownBlock.toList)) := by
          intro w' k1 m1
          have hk : ∀ k, k ∈ (br :: bl :: (a.ownBlock.toList ++ b.ownBlock.toList)) → k ≠ br → w'.heap[k]? = w.heap[k]? := fun k hk e => m1.block k ((Rd.part br t).lt _ _ hd0 k hk) (by simp [e])
          exact ⟨bl, cl, cur, a, b, k1, (hk bl (by simp) (fun e => h7.1 e.symm)).trans h2, h3, h4, own_heap h5 (fun k e => hk k (by simp [e]) (fun e2 => h7.2.1 (by rw [e, e2]))), own_heap h6 (fun k e => hk k (by simp [e]) (fun e2 => h7.2.2.2.1 (by rw [e, e2]))), h7, ⟨Rd.used_wf h8.1, h8.2⟩, rfl⟩
        have HF := Lib.hid (And.intro hfin (And.intro hi k1))
        have hBl : (i : Int) < t.L.length := k2
        clear hr hh hd0 hs h2 h3 h4 h5 h6 h7 h8 hfin
        go_enter Try.func29, Try.ntmps29
        go_wp2_with (first
          | (have x := ob3; at_builtin; refine wpList_app1b rfl (.tmp 38) (.tmp 40) 22 rfl 0 9 j0 (.string ⟨#[]⟩) 16 Try.underlying22 hj0 hy0 hy1 hy2 rfl b t.pend.length _ (.string u) rfl rfl _ (by simp) rfl ob3 (Nat.zero_le _) (by simp only [maxLen]; omega) (by omega) ?_; intro b' w4 o4 g4 b4; obtain ⟨Ab', cb', rfl⟩ := Rd.own_form o4; have K4 := (g4.block br (lt_of_block K3) (fun e => n3 e.symm)).trans K3; have f42 : w4.frozen? ⟨br, 2, none⟩ = false := Dk.free_of K4; have c42 : w4.cell? ⟨br, 2, none⟩ = some b := by rw [Dk.cell_of K4]; rfl)
          | (have x := ha1; at_builtin; refine wpList_app1b rfl (.tmp 28) (.tmp 30) 52 rfl 0 3 i0 (.int .i64 0) 8 Try.underlying52 hi0 hz0 hz1 hz2 rfl a t.pend.length _ (.int .i64 i) rfl rfl _ rfl rfl ha1 (Nat.zero_le _) (by simp only [maxLen]; omega) (by omega) ?_; intro a' w2 o2 g2 b2; obtain ⟨Aa', ca', rfl⟩ := Rd.own_form o2; have K2 := (g2.block br (lt_of_block K1) (fun e => n1 e.symm)).trans K1; have f21 : w2.frozen? ⟨br, 1, none⟩ = false := Dk.free_of K2; have c21 : w2.cell? ⟨br, 1, none⟩ = some a := by rw [Dk.cell_of K2]; rfl
             have c22 : w2.cell? ⟨br, 2, none⟩ = some b := by rw [Dk.cell_of K2]; rfl
             have K3 : (w2.setCell ⟨br, 1, none⟩ (.slice Aa' (t.pend.length + 1) ca')).heap[br]? = some (Rd.blk (.slice (some ⟨bl, 0, none⟩) t.L.length cl) (.slice Aa' (t.pend.length + 1) ca') b (Rd.used t.left)) := by rw [Dk.cells_setCell K2]; rfl
             have ob2 := own_heap hb1 (fun k hk => g2.block k (hb1.lt k hk).2 (fun e => nn k e.symm hk))
             have ob3 := ownsRow_setCell_other (a := ⟨br, 1, none⟩) ob2 n3 (.slice Aa' (t.pend.length + 1) ca'))
          | (go_at_call 35; refine (rUse_live _ _ _ _ _ _ h1 hw8 hz).mono ?_; rintro e w1 ⟨rfl, K1, k5, k6⟩; have hd1 := HF.out.1 _ K1 k5; have c1 : w1.cell? ⟨br, 1, none⟩ = some a := by rw [Dk.cell_of K1]; rfl
             obtain ⟨bl1, cl1, cur1, a1, b1, g1, g2, g3, g4, ha1, hb1, g7, g8, g9⟩ := hd1
             obtain ⟨e1, rfl, rfl⟩ : Value.slice (some ⟨bl, 0, none⟩) t.L.length cl = .slice (some ⟨bl1, 0, none⟩) t.L.length cl1 ∧ a = a1 ∧ b = b1 := by rw [K1] at g1; simpa [Rd.blk] using g1
             obtain ⟨rfl, rfl⟩ : bl = bl1 ∧ cl = cl1 := by simpa using e1
             have n1 := g7.2.1
             have n3 := g7.2.2.2.1
             have nn := g7.2.2.2.2.2
             have H1 := Lib.hid (And.intro g2 (And.intro g3 (And.intro g4 (And.intro g7 g8))))
             clear g1 g2 g3 g4 g7 g8 g9 e1 k6))
        go_ret
        obtain ⟨q2, q3, q4, q7, q8⟩ := H1.out
        have lbr := lt_of_block K1
        have lbl := lt_of_block q2
        have hk : ∀ k, k < w1.heap.size → k ≠ br → a.ownBlock ≠ some k → b.ownBlock ≠ some k → (w4.setCell ⟨br, 2, none⟩ (.slice Ab' (t.pend.length + 1) cb')).heap[k]? = w1.heap[k]? := by
          intro k hk hne na nb
          have l2 : k < w2.heap.size := Nat.lt_of_lt_of_le hk g2.size
          rw [Below.heap_setCell _ _ _ _ hne, g4.block k (by rw [World.size_setCell]; exact l2) (fun e => nb e.symm), Below.heap_setCell _ _ _ _ hne, g2.block k hk (fun e => na e.symm)]
        have na' : ∀ k, (Value.slice Aa' (t.pend.length + 1) ca').ownBlock = some k → k ≠ br ∧ k ≠ bl ∧ b.ownBlock ≠ some k ∧ (a.ownBlock = some k ∨ w1.heap.size ≤ k) := by
          intro k e
          have hb := b2 k e
          refine ⟨?_, ?_, ?_, hb⟩
          · rintro rfl; rcases hb with h | h; exact n1 h; omega
          · rintro rfl; rcases hb with h | h; exact q7.2.2.1 h; omega
          · intro h2; rcases hb with h | h; exact nn k h h2; have := (hb1.lt k h2).2; omega
        have nb' : ∀ k, (Value.slice Ab' (t.pend.length + 1) cb').ownBlock = some k → k ≠ br ∧ k ≠ bl ∧ (Value.slice Aa' (t.pend.length + 1) ca').ownBlock ≠ some k ∧ (b.ownBlock = some k ∨ w1.heap.size ≤ k) := by
          intro k e
          have hb := b4 k e
          rw [World.size_setCell] at hb
          have hs2 := g2.size
          refine ⟨?_, ?_, ?_, ?_⟩
          · rintro rfl; rcases hb with h | h; exact n3 h; omega
          · rintro rfl; rcases hb with h | h; exact q7.2.2.2.2.1 h; omega
          · intro h2; rcases hb with h | h; exact (na' k h2).2.2.1 h; have := (o2.lt k h2).2; omega
          · rcases hb with h | h; exact .inl h; exact .inr (by omega)
        have m2 : Moved w w2 (br :: bl :: (a.ownBlock.toList ++ b.ownBlock.toList)) := (k5.more (by simp)).trans (Moved.of_grown (F := br :: bl :: (a.ownBlock.toList ++ b.ownBlock.toList)) g2 (fun k hk => by simp [hk])) (fun k hk => .inl hk)
        have m4 : Moved w w4 (br :: bl :: (a.ownBlock.toList ++ b.ownBlock.toList)) := (m2.setCell br 1 (.slice Aa' (t.pend.length + 1) ca') (.inl (by simp))).trans (Moved.of_grown (F := br :: bl :: (a.ownBlock.toList ++ b.ownBlock.toList)) g4 (fun k hk => by simp [hk])) (fun k hk => .inl hk)
        refine ⟨rfl, _, ⟨bl, cl, cur1, .slice Aa' (t.pend.length + 1) ca', .slice Ab' (t.pend.length + 1) cb', ?_, (hk bl lbl (fun e => q7.1 e.symm) q7.2.2.1 q7.2.2.2.2.1).trans q2, q3, q4, ?_, ?_, ⟨q7.1, fun e => (na' _ e).1 rfl, fun e => (na' _ e).2.1 rfl, fun e => (nb' _ e).1 rfl, fun e => (nb' _ e).2.1 rfl, fun k e e2 => (nb' k e2).2.2.1 e⟩, ⟨q8.1, fun v hv => ?_⟩, rfl⟩, m4.setCell _ _ _ (.inl (by simp)), fun k hk => ?_⟩
        · rw [Dk.cells_setCell K4]; rfl
        · simp only [List.length_append, List.length_cons, List.length_nil, Nat.zero_add, List.map_append, List.map_cons, List.map_nil]
          refine own_heap o2 (fun k e => ?_)
          have hn := na' k e
          rw [Below.heap_setCell _ _ _ _ hn.1, g4.block k (by rw [World.size_setCell]; exact (o2.lt k e).2) (fun e => hn.2.2.1 e.symm), Below.heap_setCell _ _ _ _ hn.1]
        · simp only [List.length_append, List.length_cons, List.length_nil, Nat.zero_add, List.map_append, List.map_cons, List.map_nil]
          exact own_heap o4 (fun k e => Below.heap_setCell _ _ _ _ (nb' k e).1)
        · rcases List.mem_append.1 hv with hv | hv
          · exact q8.2 v hv
          · simp at hv; subst hv; exact ⟨HF.out.2.1, HF.out.2.2, hBl⟩
        · have hs1 := k5.size
          simp only [List.mem_cons, List.mem_append, Option.mem_toList] at hk ⊢
          rcases hk with rfl | rfl | hk | hk
          · exact .inl (.inl rfl)
          · exact .inl (.inr (.inl rfl))
          · rcases (na' k hk).2.2.2 with h | h
            · exact .inl (.inr (.inr (.inl h)))
            · exact .inr (by omega)
          · rcases (nb' k hk).2.2.2 with h | h
            · exact .inl (.inr (.inr (.inr h)))
            · exact .inr (by omega)
end Go.Proofs.Ytienbgfmhllgmaa
