/- The walks of Disk.Write, Len, Pending, Limit, New. -/
import Derived.Test.YtienbgfmhllgmaaRows
import Derived.Test.YtienbgfmhllgmaaKit
import Derived.Test.YtienbgfmhllgmaaMap
import Derived.Test.YtienbgfmhllgmaaDk1
import Derived.Test.YtienbgfmhllgmaaDk2
import Derived.RangeFuncBox
namespace Go.Proofs.Ytienbgfmhllgmaa
open Go.Maps Go.RowKit

theorem dbg_stop {p : Prop} (h : Hid p) : p := h
theorem dbg_un {p : Prop} (h : p) : Hid p := h
theorem writeInfo : (Try.prog.info? 65).map (fun i => (i.zero, i.size, i.bytes)) = some (some (.agg #[.int .i64 0, .string ⟨#[]⟩]), 2, 24) := by kernel_rfl

set_option maxHeartbeats 1000000 in
theorem dWrite_any (bd : Nat) (s : Dk.St) (F : List Nat) (i : Int) (t : ByteArray) (w : World) (hd : Dk.Of w bd s F) (hp : s.pend.length < 1000000) (ht : t.size < 1000000) (hi : (Lit.int .i64 i).wf = true) :
    Calls Try.prog 9 #[.pointer (some ⟨bd, 0, none⟩), .int .i64 i, .string t] w fun e w' => e = .returned (.int .i64 (Dk.write s i t).1) ∧ Dk.Does w bd F (Dk.write s i t).2 w' := by
  have hd0 := hd
  obtain ⟨l, bm, pv, h1, h2, ⟨h3, hpw⟩, h4, h5, h6, hm, ho, rfl⟩ := hd
  by_cases hh : Dk.has s i = true
  · by_cases hs : 64 < t.size
    · refine Calls.mono (R := fun e w' => e = .returned (.int .i64 3) ∧ w = w') ?_ (fun _ _ ⟨h1, h2⟩ => ⟨by simp [h1, Dk.write, hh, hs], by simpa [← h2, Dk.write, hh, hs] using hd0.does⟩)
      have hb1 : (64 : Int) < (t.size : Int) := by omega
      clear hd0 hm ho h2 hs
      go_enter Try.func9, Try.ntmps9
      go_wp2_with (go_at_call 22; refine (has_at true _ _ _ _ _ _ _ _ h1 hh).mono ?_; rintro e w' ⟨rfl, rfl⟩)
      go_ret
      exact ⟨rfl, rfl⟩
    · have hb1 : ¬ (64 : Int) < (t.size : Int) := by omega
      by_cases hdd : Dk.dead s.lim = true
      · refine Calls.mono (R := fun e w' => e = .returned (.int .i64 8) ∧ w = w') ?_ (fun _ _ ⟨h1, h2⟩ => ⟨by simp [h1, Dk.write, hh, hs, hdd], by simpa [← h2, Dk.write, hh, hs, hdd] using hd0.does⟩)
        have hu := (Dk.dead_eq _ _ h2).trans hdd
        clear hd0 hm ho h2 hs
        go_enter Try.func9, Try.ntmps9
        go_wp2_with (first | (go_at_call 22; refine (has_at true _ _ _ _ _ _ _ _ h1 hh).mono ?_; rintro e w' ⟨rfl, rfl⟩) | (go_at_call 23; refine (use_dead _ _ _ _ _ _ _ h1 hu).mono ?_; rintro e w' ⟨rfl, rfl⟩))
        go_ret
        exact ⟨rfl, rfl⟩
      · have hdd' : Dk.dead s.lim = false := by simpa using hdd
        refine Calls.mono (R := fun e w' => e = .returned (.int .i64 0) ∧ Dk.Does w bd (bd :: bm :: pv.ownBlock.toList) { s with lim := Dk.used s.lim, pend := s.pend ++ [(i, t)] } w') ?_ (fun _ _ ⟨h1, h2⟩ => ⟨by simp [h1, Dk.write, hh, hs, hdd], by simpa [Dk.write, hh, hs, hdd] using h2⟩)
        have hu := (Dk.dead_eq _ _ h2).trans hdd'
        have hus := Lib.hid (Dk.used_eq _ _ h2 h3 hdd')
        have HP := Lib.hid (And.intro hpw hi)
        clear hd0 hs hdd hdd' h2 hpw hi
        obtain ⟨i0, hi0, hz0, hz1, hz2⟩ := info_parts writeInfo
        have c4 : (w.setCell ⟨bd, 1, none⟩ (.int .i64 (wrap64 (l - 1)))).cell? ⟨bd, 4, none⟩ = some pv := by rw [Dk.cell_of (Dk.cells_setCell h1 _)]; rfl
        have ho1 := ownsRow_setCell_other (a := ⟨bd, 1, none⟩) ho h5 (.int .i64 (wrap64 (l - 1)))
        go_enter Try.func9, Try.ntmps9
        go_wp2_with (first
          | (go_at_call 22; refine (has_at true _ _ _ _ _ _ _ _ h1 hh).mono ?_; rintro e w' ⟨rfl, rfl⟩)
          | (go_at_call 23; refine (use_live _ _ _ _ _ _ _ h1 hu).mono ?_; rintro e w' ⟨rfl, rfl⟩)
          | (at_builtin; refine wpList_app2 rfl (.tmp 26) (.tmp 30) 60 rfl 0 65 i0 _ 24 Try.underlying60 hi0 hz0 hz1 hz2 rfl pv s.pend.length (Dk.flat s.pend) (.int .i64 i) (.string t) rfl rfl rfl _ (by simp) rfl ho1 (by omega) (by simp only [maxLen]; omega) (by omega) ?_; intro pv' w3 ho3 hg3 hb3; obtain ⟨g', cap', rfl⟩ := ownsRow_succ ho3; have hw3 := (hg3.block bd (lt_of_block (Dk.cells_setCell h1 (.int .i64 (wrap64 (l - 1))) (j := 1))) (fun e => h5 e.symm)).trans (Dk.cells_setCell h1 (.int .i64 (wrap64 (l - 1)))); have hf3 : w3.frozen? ⟨bd, 4, none⟩ = false := Dk.free_of hw3; have hc3 : w3.cell? ⟨bd, 4, none⟩ = some pv := by rw [Dk.cell_of hw3]; rfl))
        go_ret
        have hlt := lt_of_block h1
        have hne : ∀ k, Value.ownBlock (.slice (some ⟨g', 0, none⟩) (s.pend.length + 1) cap') = some k → k ≠ bd ∧ k ≠ bm ∧ (k ∈ bd :: bm :: pv.ownBlock.toList ∨ w.heap.size ≤ k) := by
          intro k hk
          rcases hb3 k hk with h | h
          · exact ⟨fun e => h5 (by rw [h, e]), fun e => h6 (by rw [h, e]), .inl (by simp [h])⟩
          · rw [World.size_setCell] at h
            have := hm.lt
            exact ⟨by omega, by omega, .inr h⟩
        have hm1 : Moved w (w.setCell ⟨bd, 1, none⟩ (.int .i64 (wrap64 (l - 1)))) (bd :: bm :: pv.ownBlock.toList) := (Moved.refl _ _).setCell _ _ _ (.inl (by simp))
        have hm3 : Moved w w3 (bd :: bm :: pv.ownBlock.toList) := hm1.trans (Moved.of_grown (F := bd :: bm :: pv.ownBlock.toList) hg3 (fun k hk => by simp [hk])) (fun k hk => .inl hk)
        have hbm : w3.heap[bm]? = w.heap[bm]? := (hg3.block bm (by rw [World.size_setCell]; exact hm.lt) (fun e => h6 e.symm)).trans (Below.heap_setCell _ _ _ _ (fun e => h4 e.symm))
        refine ⟨rfl, _, ⟨wrap64 (l - 1), bm, _, ?_, hus.out, ⟨wrap64_wf _, fun u hu => by simp at hu; rcases hu with hu | rfl; exact HP.out.1 u hu; exact HP.out.2⟩, h4, fun e => (hne _ e).1 rfl, fun e => (hne _ e).2.1 rfl, hm.keep ((Below.heap_setCell _ _ _ _ (fun e => h4 e.symm)).trans hbm), ?_, rfl⟩, hm3.setCell _ _ _ (.inl (by simp)), fun k hk => ?_⟩
        · rw [Dk.cells_setCell hw3]
          cases hsl : s.lim <;> simp [Dk.blk, Dk.used]
        · simp only [List.length_append, List.length_cons, List.length_nil, Nat.zero_add, Dk.flat_append]
          exact own_heap ho3 (fun k hk => Below.heap_setCell _ _ _ _ (hne k hk).1)
        · simp only [List.mem_cons, Option.mem_toList] at hk
          rcases hk with rfl | rfl | hk
          · exact .inl (by simp)
          · exact .inl (by simp)
          · exact (hne k hk).2.2
  · have hh' : Dk.has s i = false := by simpa using hh
    refine Calls.mono (R := fun e w' => e = .returned (.int .i64 1) ∧ w = w') ?_ (fun _ _ ⟨h1, h2⟩ => ⟨by simp [h1, Dk.write, hh'], by simpa [← h2, Dk.write, hh'] using hd0.does⟩)
    clear hd0 hm ho h2 hh
    go_enter Try.func9, Try.ntmps9
    go_wp2_with (go_at_call 22; refine (has_at false _ _ _ _ _ _ _ _ h1 hh').mono ?_; rintro e w' ⟨rfl, rfl⟩)
    go_ret
    exact ⟨rfl, rfl⟩

set_option maxHeartbeats 400000 in
theorem dPending_any (bd : Nat) (s : Dk.St) (F : List Nat) (w : World) (hd : Dk.Of w bd s F) :
    Calls Try.prog 11 #[.pointer (some ⟨bd, 0, none⟩)] w fun e w' => e = .returned (.int .i64 s.pend.length) ∧ w = w' := by
  obtain ⟨l, bm, pv, h1, h2, h3, h4, h5, h6, hm, ho, rfl⟩ := hd
  have c4 : w.cell? ⟨bd, 4, none⟩ = some pv := by rw [Dk.cell_of h1]; rfl
  obtain ⟨A, c, rfl⟩ : ∃ A c, pv = .slice A s.pend.length c := by
    rcases ho.2 with ⟨rfl, hn⟩ | ⟨g, cap, cur, rfl, _⟩
    · exact ⟨none, 0, by rw [hn]⟩
    · exact ⟨_, _, rfl⟩
  clear h1 h2 h3 h4 h5 h6 hm ho
  go_enter Try.func11, Try.ntmps11
  go_wp2
  go_ret
  exact ⟨rfl, rfl⟩

set_option maxHeartbeats 400000 in
theorem dLimit_any (bd : Nat) (s : Dk.St) (F : List Nat) (n : Int) (hn : (Lit.int .i64 n).wf = true) (w : World) (hd : Dk.Of w bd s F) :
    Calls Try.prog 12 #[.pointer (some ⟨bd, 0, none⟩), .int .i64 n] w fun e w' => e = .returned (.tuple #[]) ∧ Dk.Does w bd F { s with lim := some n } w' := by
  obtain ⟨l, bm, pv, h1, h2, h3, h4, h5, h6, hm, ho, rfl⟩ := hd
  have f0 : w.frozen? ⟨bd, 0, none⟩ = false := Dk.free_of h1
  have f1 : w.frozen? ⟨bd, 1, none⟩ = false := Dk.free_of h1
  have c0 : w.cell? ⟨bd, 0, none⟩ = some (.bool s.lim.isSome) := by rw [Dk.cell_of h1]; rfl
  have c1 : w.cell? ⟨bd, 1, none⟩ = some (.int .i64 l) := by rw [Dk.cell_of h1]; rfl
  have HP := Lib.hid h3.2
  have H := Lib.hid (And.intro h1 (And.intro h4 (And.intro h5 (And.intro h6 (And.intro hm ho)))))
  clear h1 h2 h3 h4 h5 h6 hm ho
  go_enter Try.func12, Try.ntmps12
  go_wp2
  go_end0
  obtain ⟨h1, h4, h5, h6, hm, ho⟩ := H.out
  refine ⟨rfl, _, ⟨n, bm, pv, ?_, by rintro k ⟨⟩; rfl, ⟨hn, HP.out⟩, h4, h5, h6, hm.keep ?_, own_heap ho ?_, rfl⟩, ((Moved.refl _ _).setCell _ _ _ (.inl (by simp))).setCell _ _ _ (.inl (by simp)), fun k hk => .inl hk⟩
  · rw [Dk.cells_setCell (Dk.cells_setCell h1 _)]; rfl
  · rw [Below.heap_setCell _ _ _ _ (fun e => h4 e.symm), Below.heap_setCell _ _ _ _ (fun e => h4 e.symm)]
  · intro k hk
    have hne : k ≠ bd := fun e => h5 (by rw [hk, e])
    rw [Below.heap_setCell _ _ _ _ hne, Below.heap_setCell _ _ _ _ hne]

set_option maxHeartbeats 400000 in
theorem dNew_any (n : Int) (hn : 1 ≤ n ∧ n ≤ 4096) (w : World) :
    Calls Try.prog 8 #[.int .i64 n] w fun e w' => e = .returned (.tuple #[.pointer (some ⟨w.heap.size + 1, 0, none⟩), .int .i64 0]) ∧ Below w.heap.size w w' ∧ Dk.Of w' (w.heap.size + 1) ⟨none, n, fun _ => none, 0, []⟩ [w.heap.size + 1, w.heap.size] := by
  have hmm := @run_makeMap Try.prog
  obtain ⟨hn1, hn2⟩ := hn
  go_enter Try.func8, Try.ntmps8
  go_wp2
  go_ret2
  refine ⟨rfl, ((Below.refl _ _).alloc (Nat.le_refl _) _).alloc (by simp) _, 0, w.heap.size, .slice none 0 0, ?_, by rintro k ⟨⟩, ⟨by decide, fun u hu => by simp at hu⟩, by omega, by simp [Value.ownBlock], by simp [Value.ownBlock], ((MapOf.made w _).alloc _).congr (fun _ => rfl), World.ownsRow_nil _ _ _ _, by simp [Value.ownBlock]⟩
  have := heap_alloc_new (w.alloc (.map #[] 0)) (Dk.blk false 0 n w.heap.size (.slice none 0 0))
  rw [World.size_alloc] at this
  exact this
end Go.Proofs.Ytienbgfmhllgmaa
