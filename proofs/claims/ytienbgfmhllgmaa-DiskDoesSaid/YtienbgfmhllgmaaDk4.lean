/- The walks of Disk.do, Sync, Crash. -/
import Derived.Test.YtienbgfmhllgmaaRows
import Derived.Test.YtienbgfmhllgmaaKit
import Derived.Test.YtienbgfmhllgmaaMap
import Derived.Test.YtienbgfmhllgmaaDk1
import Derived.Test.YtienbgfmhllgmaaDk2
import Derived.Test.YtienbgfmhllgmaaDk3
namespace Go.Proofs.Ytienbgfmhllgmaa
open Go.Maps Go.RowKit

theorem Dk.row_cells {w : World} {pv : Value} {l : List Dk.Wr} (h : w.ownsRow 0 65 2 pv l.length (Dk.flat l)) :
    ∃ A c, pv = .slice A l.length c ∧ l.length ≤ c ∧ (l ≠ [] → ∃ g, A = some ⟨g, 0, none⟩ ∧ ∀ k (hk : k < l.length), w.cell? ⟨g, k * 2, none⟩ = some (.int .i64 l[k].1) ∧ w.cell? ⟨g, k * 2 + 1, none⟩ = some (.string l[k].2)) := by
  rcases h.2 with ⟨rfl, hn⟩ | ⟨g, cap, cur, rfl, _, hg, hc, _, hs, ht⟩
  · have : l = [] := List.eq_nil_of_length_eq_zero hn
    exact ⟨none, 0, by rw [hn], by omega, fun hne => absurd this hne⟩
  · refine ⟨_, _, rfl, hc, fun _ => ⟨g, rfl, fun k hk => ?_⟩⟩
    have h1 := Dk.flat_at l k hk
    have hx : ∀ j y, (Dk.flat l)[j]? = some y → w.cell? ⟨g, j, none⟩ = some y := by
      intro j y hj
      rw [Dk.cell_of hg, ← Array.getElem?_toList]
      rw [← ht, List.getElem?_take] at hj
      split at hj
      · exact hj
      · cases hj
    rw [Nat.mul_comm k 2]
    exact ⟨hx _ _ h1.1, hx _ _ h1.2⟩

set_option maxHeartbeats 1000000 in
theorem dDo_any (bd : Nat) (is : Bool) (l n : Int) (bm : Nat) (pv : Value) (u : Dk.Wr) (g : Int → Option Dk.Wr) (cnt : Nat) (w : World) (h : w.heap[bd]? = some (Dk.blk is l n bm pv)) (hm : MapOf w 3 bm cnt (fun j => (g j).map Dk.enc)) (hc : cnt < 1000000) (hu : (Lit.int .i64 u.1).wf = true) :
    Calls Try.prog 24 #[.pointer (some ⟨bd, 0, none⟩), .agg #[.int .i64 u.1, .string u.2]] w fun e w' => e = .returned (.tuple #[]) ∧ MapOf w' 3 bm (cnt + 1) (fun j => (Dk.put g u j).map Dk.enc) ∧ Moved w w' [bm] := by
  have c3 : w.cell? ⟨bd, 3, none⟩ = some (.map (some bm)) := by rw [Dk.cell_of h]; rfl
  have hlt := lt_of_block h
  have c3' : (w.alloc (.cells #[.int .i64 u.1, .string u.2] 65)).cell? ⟨bd, 3, none⟩ = some (.map (some bm)) := by rw [World.cell?_alloc_past _ _ _ (by omega)]; exact c3
  have d0 : (w.alloc (.cells #[.int .i64 u.1, .string u.2] 65)).cell? ⟨w.heap.size, 0, none⟩ = some (.int .i64 u.1) := by rw [Dk.cell_of (heap_alloc_new w _)]; rfl
  have d1 : (w.alloc (.cells #[.int .i64 u.1, .string u.2] 65)).cell? ⟨w.heap.size, 1, none⟩ = some (.string u.2) := by rw [Dk.cell_of (heap_alloc_new w _)]; rfl
  obtain ⟨w2, hr, hm2, hg2⟩ := MapOf.update (w := (w.alloc (.cells #[.int .i64 u.1, .string u.2] 65)).drew) (hm.alloc _) Try.underlying3 Try.underlying57 (by simp only [maxLen]; omega) u.1 hu (.agg #[.int .i64 u.1, .string u.2])
  clear h
  go_enter Try.func24, Try.ntmps24
  go_wp2
  refine wp_region_quiet_tail 7 (by kernel_rfl) (by kernel_rfl) ?_
  simp only [List.take_succ_cons, List.take_zero, List.drop_succ_cons, List.drop_zero]
  repeat (go_big_quiet_step (fail))
  refine wpQuiet_nil ?_
  go_wp2
  go_end0
  refine ⟨rfl, hm2.congr (fun j => ?_), ?_⟩
  · unfold Dk.put
    by_cases hj : j = u.1 <;> simp [hj, Dk.enc]
  · exact Moved.trans (w' := (w.alloc (.cells #[.int .i64 u.1, .string u.2] 65)).drew) (((Moved.refl w [bm]).alloc _).drewN 1) (Moved.of_grown (F := [bm]) hg2 (fun k hk => by injection hk with hk; simp [hk])) (fun k hk => .inl hk)

theorem Dk.puts_take (h : Int → Option Dk.Wr) (l : List Dk.Wr) (k : Nat) (hk : k < l.length) : Dk.puts h (l.take (k + 1)) = Dk.put (Dk.puts h (l.take k)) l[k] := by
  unfold Dk.puts
  rw [List.take_succ_eq_append_getElem hk, List.foldl_append]
  rfl

set_option maxHeartbeats 1000000 in
theorem dSync_any (bd : Nat) (s : Dk.St) (F : List Nat) (w : World) (hd : Dk.Of w bd s F) (hp : s.pend.length + s.cnt < 1000000) :
    Calls Try.prog 10 #[.pointer (some ⟨bd, 0, none⟩)] w fun e w' => e = .returned (.int .i64 (Dk.sync s).1) ∧ Dk.Does w bd F (Dk.sync s).2 w' := by
  have hd0 := hd
  obtain ⟨l, bm, pv, h1, h2, ⟨h3, hpw⟩, h4, h5, h6, hm, ho, rfl⟩ := hd
  by_cases hdd : Dk.dead s.lim = true
  · refine Calls.mono (R := fun e w' => e = .returned (.int .i64 8) ∧ w = w') ?_ (fun _ _ ⟨h1, h2⟩ => ⟨by simp [h1, Dk.sync, hdd], by simpa [← h2, Dk.sync, hdd] using hd0.does⟩)
    have hu := (Dk.dead_eq _ _ h2).trans hdd
    clear hd0 hm ho h2
    go_enter Try.func10, Try.ntmps10
    go_wp2_with (go_at_call 23; refine (use_dead _ _ _ _ _ _ _ h1 hu).mono ?_; rintro e w' ⟨rfl, rfl⟩)
    go_ret
    exact ⟨rfl, rfl⟩
  · have hdd' : Dk.dead s.lim = false := by simpa using hdd
    refine Calls.mono (R := fun e w' => e = .returned (.int .i64 0) ∧ Dk.Does w bd (bd :: bm :: pv.ownBlock.toList) { s with lim := Dk.used s.lim, held := Dk.puts s.held s.pend, cnt := s.cnt + s.pend.length, pend := [] } w') ?_ (fun _ _ ⟨h1, h2⟩ => ⟨by simp [h1, Dk.sync, hdd], by simpa [Dk.sync, hdd] using h2⟩)
    have hu := (Dk.dead_eq _ _ h2).trans hdd'
    have hus := Lib.hid (Dk.used_eq _ _ h2 h3 hdd')
    have k1 := Dk.cells_setCell h1 (j := 1) (.int .i64 (wrap64 (l - 1)))
    have hm1 : MapOf (w.setCell ⟨bd, 1, none⟩ (.int .i64 (wrap64 (l - 1)))) 3 bm s.cnt (fun i => (s.held i).map Dk.enc) := hm.keep (Below.heap_setCell _ _ _ _ (fun e => h4 e.symm))
    have c4 : (w.setCell ⟨bd, 1, none⟩ (.int .i64 (wrap64 (l - 1)))).cell? ⟨bd, 4, none⟩ = some pv := by rw [Dk.cell_of k1]; rfl
    have ho1 := ownsRow_setCell_other (a := ⟨bd, 1, none⟩) ho h5 (.int .i64 (wrap64 (l - 1)))
    have M1 : Moved w (w.setCell ⟨bd, 1, none⟩ (.int .i64 (wrap64 (l - 1)))) (bd :: bm :: pv.ownBlock.toList) := (Moved.refl _ _).setCell _ _ _ (.inl (by simp))
    obtain ⟨A, c, rfl, hlc, hA⟩ := Dk.row_cells ho1
    have HA := Lib.hid hA
    have HP := Lib.hid hpw
    have H5 := Lib.hid h5
    have H6 := Lib.hid h6
    have hsz : (w.setCell ⟨bd, 1, none⟩ (.int .i64 (wrap64 (l - 1)))).heap.size = w.heap.size := World.size_setCell _ _ _
    have HM := Lib.hid hm1
    clear hd0 hdd hdd' h2 hpw hA h5 h6 ho ho1 hm1
    go_enter Try.func10, Try.ntmps10
    go_wp2_with (go_at_call 23; refine (use_live _ _ _ _ _ _ _ h1 hu).mono ?_; rintro e w' ⟨rfl, rfl⟩)
    generalize hW : w.setCell ⟨bd, 1, none⟩ (.int .i64 (wrap64 (l - 1))) = w1 at *
    clear hW
    go_loopw [18] (fun i wr => ∃ k : Nat, k ≤ s.pend.length ∧ i = .int .i64 k ∧ MapOf wr 3 bm (s.cnt + k) (fun j => (Dk.puts s.held (s.pend.take k) j).map Dk.enc) ∧ Moved w1 wr [bm]) (fun i _ => s.pend.length - (intOf i).toNat)
    case atStart => exact ⟨0, Nat.zero_le _, rfl, HM.out, Moved.refl _ _⟩
    case round =>
      obtain ⟨k, hk, rfl, hmk, hmv⟩ := hrel
      have hbd : wr.heap[bd]? = w1.heap[bd]? := hmv.block bd (lt_of_block k1) (by simp [h4])
      have kr := hbd.trans k1
      by_cases hlt : k < s.pend.length
      · obtain ⟨g, rfl, hc⟩ := HA.out (by rintro h; simp [h] at hlt)
        obtain ⟨a1, a2⟩ := hc k hlt
        have hgm : g ≠ bm := fun e => H6.out (by simp [Value.ownBlock, e])
        have hgb : wr.heap[g]? = w1.heap[g]? := hmv.block g (World.block_lt_of_cell? _ _ a1) (by simp [hgm])
        have b1 := (World.cell?_of_block (a := ⟨g, k * 2, none⟩) hgb).trans a1
        have b2 := (World.cell?_of_block (a := ⟨g, k * 2 + 1, none⟩) hgb).trans a2
        have hwf := HP.out _ (List.getElem_mem hlt)
        have HT := Lib.hid (Dk.puts_take s.held s.pend k hlt)
        have hli : (k : Int) < (s.pend.length : Int) := by omega
        clear hc a1 a2 hgb
        generalize s.pend[k] = u at *
        have kr2 : ∀ o, (wr.alloc o).heap[bd]? = _ := fun o => (Below.heap_alloc _ _ _ (lt_of_block kr)).trans kr
        go_wp2_with (go_at_call 24; refine (dDo_any _ _ _ _ _ _ u _ _ _ (kr2 _) (hmk.alloc _) (by omega) hwf).mono ?_; rintro e w' ⟨rfl, hm', hv'⟩)
        go_roundw
        case rel => exact ⟨k + 1, by omega, by go_num, by rw [HT.out]; exact hm', ((hmv.alloc _).trans hv' (fun _ h => .inl h))⟩
        case measure => simp [intOf]; omega
      · obtain rfl : k = s.pend.length := by omega
        have f4 : wr.frozen? ⟨bd, 4, none⟩ = false := Dk.free_of kr
        have c4' : wr.cell? ⟨bd, 4, none⟩ = some (.slice A s.pend.length c) := by rw [Dk.cell_of kr]; rfl
        go_wp2
        go_ret
        rw [List.take_length] at hmk
        refine ⟨rfl, [bd, bm], ⟨wrap64 (l - 1), bm, .slice none 0 0, ?_, hus.out, ⟨wrap64_wf _, fun u hu => by simp at hu⟩, h4, by simp [Value.ownBlock], by simp [Value.ownBlock], hmk.keep (Below.heap_setCell _ _ _ _ (fun e => h4 e.symm)), World.ownsRow_nil _ _ _ _, by simp [Value.ownBlock]⟩, (M1.trans hmv (fun k hk => .inl (by simp at hk; simp [hk]))).setCell _ _ _ (.inl (by simp)), fun k hk => .inl (by simp at hk ⊢; rcases hk with rfl | rfl; simp; simp)⟩
        rw [Dk.cells_setCell kr]
        cases hsl : s.lim <;> simp [Dk.blk, Dk.used]

theorem Dk.kept_take (l : List Dk.Wr) (ks : List Bool) (k : Nat) (h : k < l.length) : Dk.kept (l.take (k + 1)) ks = Dk.kept (l.take k) ks ++ (if ks[k]?.getD false then [l[k]] else []) := by
  induction l generalizing ks k with
  | nil => simp at h
  | cons a l ih =>
    cases ks with
    | nil => cases k <;> simp [Dk.kept]
    | cons b ks =>
      cases k with
      | zero => cases b <;> simp [Dk.kept]
      | succ k =>
        have := ih ks k (by simpa using h)
        simp only [List.take_succ_cons, Dk.kept, List.getElem?_cons_succ, List.getElem_cons_succ]
        rw [this]
        cases b <;> simp
theorem Dk.puts_append (h : Int → Option Dk.Wr) (l m : List Dk.Wr) : Dk.puts h (l ++ m) = Dk.puts (Dk.puts h l) m := by simp [Dk.puts, List.foldl_append]

set_option maxHeartbeats 1000000 in
theorem dCrash_any (bd : Nat) (s : Dk.St) (F : List Nat) (v : Value) (ks : List Bool) (w : World) (hd : Dk.Of w bd s F) (hp : s.pend.length + s.cnt < 1000000) (hr : ∀ w', Moved w w' F → ∃ B, Row Value.bool w' B v ks) :
    Calls Try.prog 13 #[.pointer (some ⟨bd, 0, none⟩), v] w fun e w' => e = .returned (.tuple #[]) ∧ Dk.Does w bd F (Dk.crash s ks) w' := by
  obtain ⟨l, bm, pv, h1, h2, ⟨h3, hpw⟩, h4, h5, h6, hm, ho, rfl⟩ := hd
  have c4 : w.cell? ⟨bd, 4, none⟩ = some pv := by rw [Dk.cell_of h1]; rfl
  obtain ⟨B0, hr0⟩ := hr w (Moved.refl _ _)
  obtain ⟨Ak, ck, rfl, hkc, hkm, _⟩ := hr0.shape
  obtain ⟨A, c, rfl, hlc, hA⟩ := Dk.row_cells ho
  have HA := Lib.hid hA
  have HP := Lib.hid hpw
  have H6 := Lib.hid h6
  have HM := Lib.hid hm
  have HR := Lib.hid hr
  clear h2 h3 hpw hA h5 h6 ho hm hr hr0
  go_enter Try.func13, Try.ntmps13
  go_wp2
  go_loopw [11] (fun i wr => ∃ k : Nat, k ≤ s.pend.length ∧ i = .int .i64 k ∧ MapOf wr 3 bm (s.cnt + k) (fun j => (Dk.puts s.held (Dk.kept (s.pend.take k) ks) j).map Dk.enc) ∧ Moved w wr [bm]) (fun i _ => s.pend.length - (intOf i).toNat)
  case atStart => exact ⟨0, Nat.zero_le _, rfl, HM.out, Moved.refl _ _⟩
  case round =>
    obtain ⟨k, hk, rfl, hmk, hmv⟩ := hrel
    have hbd : wr.heap[bd]? = w.heap[bd]? := hmv.block bd (lt_of_block h1) (by simp [h4])
    have kr := hbd.trans h1
    by_cases hlt : k < s.pend.length
    · obtain ⟨g, rfl, hc⟩ := HA.out (by rintro h; simp [h] at hlt)
      obtain ⟨a1, a2⟩ := hc k hlt
      have hgm : g ≠ bm := fun e => H6.out (by simp [Value.ownBlock, e])
      have hgb : wr.heap[g]? = w.heap[g]? := hmv.block g (World.block_lt_of_cell? _ _ a1) (by simp [hgm])
      have b1 := (World.cell?_of_block (a := ⟨g, k * 2, none⟩) hgb).trans a1
      have b2 := (World.cell?_of_block (a := ⟨g, k * 2 + 1, none⟩) hgb).trans a2
      have hwf := HP.out _ (List.getElem_mem hlt)
      have HT := Lib.hid (Dk.kept_take s.pend ks k hlt)
      have hli : (k : Int) < (s.pend.length : Int) := by omega
      clear hc a1 a2 hgb
      generalize s.pend[k] = u at *
      have kr2 : ∀ o, (wr.alloc o).heap[bd]? = _ := fun o => (Below.heap_alloc _ _ _ (lt_of_block kr)).trans kr
      by_cases hki : k < ks.length
      · have hki' : (k : Int) < (ks.length : Int) := by omega
        obtain ⟨B1, hr1⟩ := HR.out (wr.alloc (.cells #[.int .i64 u.1, .string u.2] 65)) ((hmv.more (by simp)).alloc _)
        obtain ⟨_, _, e1, _, _, hc1⟩ := hr1.shape
        cases e1
        obtain ⟨bk, ok, rfl, _, hc1⟩ := hc1 (by rintro rfl; simp at hki)
        have ck1 := hc1 k hki
        have HB : Hid (ks[k]?.getD false = ks[k]) := by show _ = _; simp [hki]
        clear hc1
        generalize ks[k] = b at *
        cases b
        · go_wp2
          go_roundw
          case rel => exact ⟨k + 1, by omega, by go_num, by rw [HT.out, HB.out]; simpa using (hmk.alloc _).mono (by omega), hmv.alloc _⟩
          case measure => simp [intOf]; omega
        · go_wp2_with (go_at_call 24; refine (dDo_any _ _ _ _ _ _ u _ _ _ (kr2 _) (hmk.alloc _) (by omega) hwf).mono ?_; rintro e w' ⟨rfl, hm', hv'⟩)
          go_roundw
          case rel => exact ⟨k + 1, by omega, by go_num, by rw [HT.out, HB.out, if_pos rfl, Dk.puts_append]; exact hm', ((hmv.alloc _).trans hv' (fun _ h => .inl h))⟩
          case measure => simp [intOf]; omega
      · have hki' : ¬ (k : Int) < (ks.length : Int) := by omega
        have HB : Hid (ks[k]?.getD false = false) := by show _ = _; simp [List.getElem?_eq_none (Nat.le_of_not_lt hki)]
        go_wp2
        go_roundw
        case rel => exact ⟨k + 1, by omega, by go_num, by rw [HT.out, HB.out]; simpa using (hmk.alloc _).mono (by omega), hmv.alloc _⟩
        case measure => simp [intOf]; omega
    · obtain rfl : k = s.pend.length := by omega
      have f0 : wr.frozen? ⟨bd, 0, none⟩ = false := Dk.free_of kr
      have f1 : wr.frozen? ⟨bd, 1, none⟩ = false := Dk.free_of kr
      have f4 : wr.frozen? ⟨bd, 4, none⟩ = false := Dk.free_of kr
      have c0' : wr.cell? ⟨bd, 0, none⟩ = some (.bool s.lim.isSome) := by rw [Dk.cell_of kr]; rfl
      have c1' : wr.cell? ⟨bd, 1, none⟩ = some (.int .i64 l) := by rw [Dk.cell_of kr]; rfl
      have c4' : wr.cell? ⟨bd, 4, none⟩ = some (.slice A s.pend.length c) := by rw [Dk.cell_of kr]; rfl
      go_wp2
      go_end0
      rw [List.take_length] at hmk
      refine ⟨rfl, [bd, bm], ⟨0, bm, .slice none 0 0, ?_, by rintro k ⟨⟩, ⟨by decide, fun u hu => by simp [Dk.crash] at hu⟩, h4, by simp [Value.ownBlock], by simp [Value.ownBlock], hmk.keep ?_, World.ownsRow_nil _ _ _ _, by simp [Value.ownBlock]⟩, (((hmv.more (fun k hk => by simp at hk; simp [hk])).setCell _ _ _ (.inl (by simp))).setCell _ _ _ (.inl (by simp))).setCell _ _ _ (.inl (by simp)), fun k hk => .inl (by simp at hk ⊢; rcases hk with rfl | rfl; simp; simp)⟩
      · rw [Dk.cells_setCell (Dk.cells_setCell (Dk.cells_setCell kr _) _)]
        simp [Dk.blk, Dk.crash]
      · rw [Below.heap_setCell _ _ _ _ (fun e => h4 e.symm), Below.heap_setCell _ _ _ _ (fun e => h4 e.symm), Below.heap_setCell _ _ _ _ (fun e => h4 e.symm)]
end Go.Proofs.Ytienbgfmhllgmaa
