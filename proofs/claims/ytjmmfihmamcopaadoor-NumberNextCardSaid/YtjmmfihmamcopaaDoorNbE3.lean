/- stetlaw10.Ref. -/
import Derived.Test.YtjmmfihmamcopaaDoorNbE2
namespace Go.Proofs.YtjmmfihmamcopaaDoor
open Go.RowKit Tx Nb

theorem rlInfo : (Tryd.prog.info? 76).map (fun i => (i.zero, i.size, i.bytes)) = some (some (.agg #[.string ⟨#[]⟩, .string ⟨#[]⟩, .int .i64 0]), 3, 40) := by kernel_rfl
theorem rhInfo : (Tryd.prog.info? 77).map (fun i => (i.zero, i.size, i.bytes)) = some (some (.agg #[.int .i64 0, .string ⟨#[]⟩, .string ⟨#[]⟩, .int .i64 0]), 4, 48) := by kernel_rfl
theorem hdF_len (x : Hd) : (hdF x).length = 4 := rfl
set_option maxRecDepth 100000 in
set_option maxHeartbeats 16000000 in
theorem ref_any {w : World} (vl vh vC vB : Value) (l : List Lab) (h : List Hd) (hr1 : RowC 3 labF w w.heap.size vl l) (hr2 : RowC 4 hdF w w.heap.size vh h) (hn : l.length < 1000000) (hm : h.length < 1000000) (hC : ∃ A n c, vC = .slice A n c) (hB : ∃ A n c, vB = .slice A n c) :
    Calls Tryd.prog 13 #[.agg #[vl, vh, vC, vB]] w fun e w' => ∃ v1 v2, e = .returned (.agg #[v1, v2, vC, vB]) ∧ OwnC 76 3 labF w.heap.size w' v1 l ∧ OwnC 77 4 hdF w.heap.size w' v2 h ∧ Below w.heap.size w w' := by
  obtain ⟨A1, c1, rfl, _, _, z1⟩ := hr1.shape
  obtain ⟨A2, c2, rfl, _, _, z2⟩ := hr2.shape
  obtain ⟨A3, n3, c3, rfl⟩ := hC
  obtain ⟨A4, n4, c4, rfl⟩ := hB
  have HC1 := Lib.hid z1
  have HC2 := Lib.hid z2
  clear z1 z2 hr1 hr2
  obtain ⟨W, hW⟩ : ∃ W, W = ((w.alloc (.cells #[.slice A1 l.length c1, .slice A2 h.length c2, (.slice A3 n3 c3), (.slice A4 n4 c4)] 27)).alloc (.cells #[.slice none 0 0, .slice none 0 0, .slice none 0 0, .slice none 0 0] 45)).alloc (.cells #[.slice none 0 0, .slice none 0 0, (.slice A3 n3 c3), (.slice A4 n4 c4)] 45) := ⟨_, rfl⟩
  have g0 : W.heap[w.heap.size]? = some (.cells #[.slice A1 l.length c1, .slice A2 h.length c2, (.slice A3 n3 c3), (.slice A4 n4 c4)] 27) := by
    rw [hW, Below.heap_alloc _ _ _ (by simp; omega), Below.heap_alloc _ _ _ (by simp)]
    exact heap_alloc_new w _
  have g1 : W.heap[w.heap.size + 1]? = some (.cells #[.slice none 0 0, .slice none 0 0, .slice none 0 0, .slice none 0 0] 45) := by
    rw [hW, Below.heap_alloc _ _ _ (by simp)]
    have := heap_alloc_new (w.alloc (.cells #[.slice A1 l.length c1, .slice A2 h.length c2, (.slice A3 n3 c3), (.slice A4 n4 c4)] 27)) (.cells #[.slice none 0 0, .slice none 0 0, .slice none 0 0, .slice none 0 0] 45)
    simpa using this
  have g2 : W.heap[w.heap.size + 2]? = some (.cells #[.slice none 0 0, .slice none 0 0, (.slice A3 n3 c3), (.slice A4 n4 c4)] 45) := by
    rw [hW]
    have := heap_alloc_new ((w.alloc (.cells #[.slice A1 l.length c1, .slice A2 h.length c2, (.slice A3 n3 c3), (.slice A4 n4 c4)] 27)).alloc (.cells #[.slice none 0 0, .slice none 0 0, .slice none 0 0, .slice none 0 0] 45)) (.cells #[.slice none 0 0, .slice none 0 0, (.slice A3 n3 c3), (.slice A4 n4 c4)] 45)
    simpa using this
  have gb : Below w.heap.size w W := by rw [hW]; exact (((Below.refl _ _).alloc (Nat.le_refl _) _).alloc (by simp) _).alloc (by simp; omega) _
  have GG := Lib.hid (And.intro g0 (And.intro g1 (And.intro g2 gb)))
  have HW := Lib.hid hW
  clear g0 g1 g2 gb hW
  go_enter Tryd.func13, Tryd.ntmps13
  go_upto_block 0 with fail
  go_cut [4] (fun _i wr => ∃ (B1 : Option Addr) (n1 b1 : Nat), OwnC 76 3 labF (w.heap.size + 3) wr (.slice B1 n1 b1) l ∧ wr.heap[w.heap.size]? = some (.cells #[.slice A1 l.length c1, .slice A2 h.length c2, (.slice A3 n3 c3), (.slice A4 n4 c4)] 27 (0, 0)) ∧ wr.heap[w.heap.size + 1]? = some (.cells #[.slice none 0 0, .slice none 0 0, .slice none 0 0, .slice none 0 0] 45 (0, 0)) ∧ wr.heap[w.heap.size + 2]? = some (.cells #[(.slice B1 n1 b1), (.slice none 0 0), (.slice A3 n3 c3), (.slice A4 n4 c4)] 45 (0, 0)) ∧ Below w.heap.size w wr)
  case first =>
    rw [← HW.out]
    go_wp2_with fail
    go_loopw [4] (fun i wr => ∃ (j : Nat) (B1 : Option Addr) (n1 b1 : Nat), j ≤ l.length ∧ i = .int .i64 j ∧ OwnC 76 3 labF (w.heap.size + 3) wr (.slice B1 n1 b1) (l.take j) ∧ wr.heap[w.heap.size]? = some (.cells #[.slice A1 l.length c1, .slice A2 h.length c2, (.slice A3 n3 c3), (.slice A4 n4 c4)] 27 (0, 0)) ∧ wr.heap[w.heap.size + 1]? = some (.cells #[.slice none 0 0, .slice none 0 0, .slice none 0 0, .slice none 0 0] 45 (0, 0)) ∧ wr.heap[w.heap.size + 2]? = some (.cells #[(.slice B1 n1 b1), (.slice none 0 0), (.slice A3 n3 c3), (.slice A4 n4 c4)] 45 (0, 0)) ∧ Below w.heap.size w wr) (fun i _ => l.length - (RowKit.intOf i).toNat)
    case atStart => exact ⟨0, none, 0, 0, Nat.zero_le _, rfl, OwnC.nil _ _ _ _ _, GG.out⟩
    case round =>
      obtain ⟨j, B1, n1, b1, hj, rfl, hown, h0, h1, h2, hbel⟩ := hrel
      have HOWN := Lib.hid hown
      have HH0 := Lib.hid h0
      have HH1 := Lib.hid h1
      have HH2 := Lib.hid h2
      have HBEL := Lib.hid hbel

      have y0 : wr.cell? ⟨w.heap.size, 0, none⟩ = some (.slice A1 l.length c1) := by rw [Lib.cell_of_heap h0]; rfl
      by_cases hjt : j < l.length
      · have hi : (j : Int) < (l.length : Int) := by omega
        have hi0 : (0 : Int) ≤ (j : Int) := by omega
        obtain ⟨b, off, rfl, hbl, hc⟩ := HC1.out (by intro e; rw [e] at hjt; simp at hjt)
        have x0 : wr.cell? ⟨b, off + j * 3, none⟩ = some (vs l[j].key) := (hbel.cell (p := ⟨b, off + j * 3, none⟩) hbl).trans (hc j hjt 0 _ rfl)
        have x1 : wr.cell? ⟨b, off + j * 3 + 1, none⟩ = some (vs l[j].num) := (hbel.cell (p := ⟨b, off + j * 3 + 1, none⟩) hbl).trans (hc j hjt 1 _ rfl)
        have x2 : wr.cell? ⟨b, off + j * 3 + 2, none⟩ = some (.int .i64 l[j].page) := (hbel.cell (p := ⟨b, off + j * 3 + 2, none⟩) hbl).trans (hc j hjt 2 _ rfl)
        have HT : Hid (l.take (j + 1) = l.take j ++ [l[j]]) := Lib.hid (List.take_succ_eq_append_getElem hjt)
        have hlen : (l.take j).length < 1000000 := by simp; omega
        generalize l[j] = x at *
        obtain ⟨i0, hi0', hz0, hz1, hz2⟩ := info_parts rlInfo
        have y2 : (wr.alloc (.cells #[vs x.key, vs x.num, .int .i64 x.page] 61)).cell? ⟨w.heap.size + 1 + 1, 0, none⟩ = some (.slice B1 n1 b1) := by rw [Lib.cell_of_heap ((Below.heap_alloc _ _ _ (lt_of_block h2)).trans h2)]; rfl
        have y0' : (wr.alloc (.cells #[vs x.key, vs x.num, .int .i64 x.page] 61)).cell? ⟨w.heap.size, 0, none⟩ = some (.slice (some ⟨b, off, none⟩) l.length c1) := by rw [Lib.cell_of_heap ((Below.heap_alloc _ _ _ (lt_of_block h0)).trans h0)]; rfl
        have hbA : Below wr.heap.size wr (wr.alloc (.cells #[vs x.key, vs x.num, .int .i64 x.page] 61)) := (Below.refl _ _).alloc (Nat.le_refl _) _
        have HOA := Lib.hid (hown.below hbA)
        have HSZ : Hid (w.heap.size + 3 ≤ (wr.alloc (.cells #[vs x.key, vs x.num, .int .i64 x.page] 61)).heap.size) := Lib.hid (by have := lt_of_block h2; simp; omega)
        clear hc hown h0 h1 h2 hbel hbA hjt 
        go_wp2_with (at_builtin; refine wpList_appN (by rfl) (.tmp 26) (.tmp 34) 42 (by rfl) (w.heap.size + 3) 76 i0 _ 3 40 Tryd.underlying42 hi0' hz0 hz1 hz2 (by rfl) (by decide) (.slice B1 n1 b1) (l.take j).length ((l.take j).flatMap labF) (labF x) rfl (by simp [labF, Value.oneCell']) (by rfl) (wr.heap.size + 1) (by simp) (by rfl) HOA.out HSZ.out (by simp only [maxLen]; omega) (by omega) ?_; intro v' w' q1 q2 q3; obtain ⟨A', c', hv'⟩ := own_slice q1; obtain ⟨A', n', c', rfl⟩ : ∃ A n c, v' = .slice A n c := ⟨_, _, _, hv'⟩; clear hv'; have hk : ∀ k, k < wr.heap.size → k < w.heap.size + 3 → w'.heap[k]? = wr.heap[k]? := (fun k h1 h2 => (q2.block k (by simp; omega) (fun e => by have := (World.ownsRow.lt HOA.out k e.symm).1; omega)).trans (Below.heap_alloc _ _ _ h1)); have k2 := (hk _ (lt_of_block HH2.out) (by omega)).trans HH2.out; have z2 : w'.cell? ⟨w.heap.size + 1 + 1, 0, none⟩ = some (.slice B1 n1 b1) := (by rw [Lib.cell_of_heap k2]; rfl); have zf := Lib.frozen_of_heap k2 0; have HQ := Lib.hid (And.intro q1 (And.intro q2 (And.intro q3 (And.intro hk k2)))); clear q1 q2 q3 hk k2)
        go_roundw
        case rel =>
          obtain ⟨q1, q2, q3, hk, k2⟩ := HQ.out
          have hoth : ∀ k, k ≠ w.heap.size + 2 → (w'.setCell ⟨w.heap.size + 1 + 1, 0, none⟩ (.slice A' n' c')).heap[k]? = w'.heap[k]? := fun k hk => Below.heap_setCell _ _ _ _ hk
          refine ⟨j + 1, A', n', c', by omega, by go_num, ?_, ?_, ?_, ?_, ?_⟩
          · rw [HT.out]
            have h9 : OwnC 76 3 labF (w.heap.size + 3) w' (.slice A' n' c') (l.take j ++ [x]) := by simpa [OwnC] using q1
            exact h9.heap (fun k hk => hoth k (by have := (h9.lt k hk).1; omega))

          · rw [hoth _ (by omega)]; exact (hk _ (lt_of_block HH0.out) (by omega)).trans HH0.out
          · rw [hoth _ (by omega)]; exact (hk _ (lt_of_block HH1.out) (by omega)).trans HH1.out
          · exact cells_set (j := 0) k2 _
          · have h7 := lt_of_block HH2.out
            exact ((HBEL.out.alloc HBEL.out.size _).grown q2 (by simp; omega) (fun k hk => by have := (World.ownsRow.lt HOA.out k hk).1; omega)).setCell (p := ⟨w.heap.size + 1 + 1, 0, none⟩) (by show w.heap.size ≤ w.heap.size + 1 + 1; omega) _
        case measure => simp [RowKit.intOf]; omega
      · obtain rfl : j = l.length := by omega
        have hi : ¬ (l.length : Int) < (l.length : Int) := by omega
        have HEND := Lib.hid (show OwnC 76 3 labF (w.heap.size + 3) wr (.slice B1 n1 b1) l by rw [List.take_length] at hown; exact hown)
        clear hown h0 h1 h2 hbel
        go_wp2_with fail
        go_meet
        exact ⟨B1, n1, b1, HEND.out, HH0.out, HH1.out, HH2.out, HBEL.out⟩
  case rest =>
    obtain ⟨X1, m1, y1, hx, g0, g1, g2, gb⟩ := hcut
    have HXO := Lib.hid hx
    have GG2 := Lib.hid (And.intro g0 (And.intro g1 (And.intro g2 gb)))
    clear hx g0 g1 g2 gb GG HC1
    go_wp2_with fail
    go_loopw [6] (fun i wr => ∃ (j : Nat) (B1 : Option Addr) (n1 b1 : Nat), j ≤ h.length ∧ i = .int .i64 j ∧ OwnC 77 4 hdF (w.heap.size + 3) wr (.slice B1 n1 b1) (h.take j) ∧ OwnC 76 3 labF (w.heap.size + 3) wr (.slice X1 m1 y1) l ∧ (∀ k, (Value.slice X1 m1 y1).ownBlock = some k → (Value.slice B1 n1 b1).ownBlock ≠ some k) ∧ wr.heap[w.heap.size]? = some (.cells #[.slice A1 l.length c1, .slice A2 h.length c2, (.slice A3 n3 c3), (.slice A4 n4 c4)] 27 (0, 0)) ∧ wr.heap[w.heap.size + 1]? = some (.cells #[.slice none 0 0, .slice none 0 0, .slice none 0 0, .slice none 0 0] 45 (0, 0)) ∧ wr.heap[w.heap.size + 2]? = some (.cells #[(.slice X1 m1 y1), (.slice B1 n1 b1), (.slice A3 n3 c3), (.slice A4 n4 c4)] 45 (0, 0)) ∧ Below w.heap.size w wr) (fun i _ => h.length - (RowKit.intOf i).toNat)
    case atStart => exact ⟨0, none, 0, 0, Nat.zero_le _, rfl, OwnC.nil _ _ _ _ _, HXO.out, fun k _ e => (by cases e), GG2.out⟩
    case round =>
      obtain ⟨j, B1, n1, b1, hj, rfl, hown, hown1, hdis, h0, h1, h2, hbel⟩ := hrel
      have HOWN := Lib.hid hown
      have HH0 := Lib.hid h0
      have HH1 := Lib.hid h1
      have HH2 := Lib.hid h2
      have HBEL := Lib.hid hbel
      have HOWN1 := Lib.hid hown1; have HDIS := Lib.hid hdis
      have y0 : wr.cell? ⟨w.heap.size, 1, none⟩ = some (.slice A2 h.length c2) := by rw [Lib.cell_of_heap h0]; rfl
      by_cases hjt : j < h.length
      · have hi : (j : Int) < (h.length : Int) := by omega
        have hi0 : (0 : Int) ≤ (j : Int) := by omega
        obtain ⟨b, off, rfl, hbl, hc⟩ := HC2.out (by intro e; rw [e] at hjt; simp at hjt)
        have x0 : wr.cell? ⟨b, off + j * 4, none⟩ = some (.int .i64 h[j].level) := (hbel.cell (p := ⟨b, off + j * 4, none⟩) hbl).trans (hc j hjt 0 _ rfl)
        have x1 : wr.cell? ⟨b, off + j * 4 + 1, none⟩ = some (vs h[j].num) := (hbel.cell (p := ⟨b, off + j * 4 + 1, none⟩) hbl).trans (hc j hjt 1 _ rfl)
        have x2 : wr.cell? ⟨b, off + j * 4 + 2, none⟩ = some (vs h[j].title) := (hbel.cell (p := ⟨b, off + j * 4 + 2, none⟩) hbl).trans (hc j hjt 2 _ rfl)
        have x3 : wr.cell? ⟨b, off + j * 4 + 3, none⟩ = some (.int .i64 h[j].page) := (hbel.cell (p := ⟨b, off + j * 4 + 3, none⟩) hbl).trans (hc j hjt 3 _ rfl)
        have HT : Hid (h.take (j + 1) = h.take j ++ [h[j]]) := Lib.hid (List.take_succ_eq_append_getElem hjt)
        have hlen : (h.take j).length < 1000000 := by simp; omega
        generalize h[j] = x at *
        obtain ⟨i0, hi0', hz0, hz1, hz2⟩ := info_parts rhInfo
        have y2 : (wr.alloc (.cells #[.int .i64 x.level, vs x.num, vs x.title, .int .i64 x.page] 53)).cell? ⟨w.heap.size + 1 + 1, 1, none⟩ = some (.slice B1 n1 b1) := by rw [Lib.cell_of_heap ((Below.heap_alloc _ _ _ (lt_of_block h2)).trans h2)]; rfl
        have y0' : (wr.alloc (.cells #[.int .i64 x.level, vs x.num, vs x.title, .int .i64 x.page] 53)).cell? ⟨w.heap.size, 1, none⟩ = some (.slice (some ⟨b, off, none⟩) h.length c2) := by rw [Lib.cell_of_heap ((Below.heap_alloc _ _ _ (lt_of_block h0)).trans h0)]; rfl
        have hbA : Below wr.heap.size wr (wr.alloc (.cells #[.int .i64 x.level, vs x.num, vs x.title, .int .i64 x.page] 53)) := (Below.refl _ _).alloc (Nat.le_refl _) _
        have HOA := Lib.hid (hown.below hbA)
        have HSZ : Hid (w.heap.size + 3 ≤ (wr.alloc (.cells #[.int .i64 x.level, vs x.num, vs x.title, .int .i64 x.page] 53)).heap.size) := Lib.hid (by have := lt_of_block h2; simp; omega)
        clear hc hown h0 h1 h2 hbel hbA hjt hown1 hdis
        go_wp2_with (at_builtin; refine wpList_appN (by rfl) (.tmp 50) (.tmp 60) 43 (by rfl) (w.heap.size + 3) 77 i0 _ 4 48 Tryd.underlying43 hi0' hz0 hz1 hz2 (by rfl) (by decide) (.slice B1 n1 b1) (h.take j).length ((h.take j).flatMap hdF) (hdF x) rfl (by simp [hdF, Value.oneCell']) (by rfl) (wr.heap.size + 1) (by simp) (by rfl) HOA.out HSZ.out (by simp only [maxLen]; omega) (by omega) ?_; intro v' w' q1 q2 q3; obtain ⟨A', c', hv'⟩ := own_slice q1; obtain ⟨A', n', c', rfl⟩ : ∃ A n c, v' = .slice A n c := ⟨_, _, _, hv'⟩; clear hv'; have hk : ∀ k, k < wr.heap.size → k < w.heap.size + 3 → w'.heap[k]? = wr.heap[k]? := (fun k h1 h2 => (q2.block k (by simp; omega) (fun e => by have := (World.ownsRow.lt HOA.out k e.symm).1; omega)).trans (Below.heap_alloc _ _ _ h1)); have k2 := (hk _ (lt_of_block HH2.out) (by omega)).trans HH2.out; have z2 : w'.cell? ⟨w.heap.size + 1 + 1, 1, none⟩ = some (.slice B1 n1 b1) := (by rw [Lib.cell_of_heap k2]; rfl); have zf := Lib.frozen_of_heap k2 1; have HQ := Lib.hid (And.intro q1 (And.intro q2 (And.intro q3 (And.intro hk k2)))); clear q1 q2 q3 hk k2)
        go_roundw
        case rel =>
          obtain ⟨q1, q2, q3, hk, k2⟩ := HQ.out
          have hoth : ∀ k, k ≠ w.heap.size + 2 → (w'.setCell ⟨w.heap.size + 1 + 1, 1, none⟩ (.slice A' n' c')).heap[k]? = w'.heap[k]? := fun k hk => Below.heap_setCell _ _ _ _ hk
          refine ⟨j + 1, A', n', c', by omega, by go_num, ?_, ?_, ?_, ?_, ?_, ?_, ?_⟩
          · rw [HT.out]
            have h9 : OwnC 77 4 hdF (w.heap.size + 3) w' (.slice A' n' c') (h.take j ++ [x]) := by simpa [OwnC] using q1
            exact h9.heap (fun k hk => hoth k (by have := (h9.lt k hk).1; omega))
          · refine (HOWN1.out.below (Below.refl _ _)).heap (fun k hk => ?_)
            have h8 := HOWN1.out.lt k hk
            rw [hoth k (by omega)]
            refine (q2.block k (by simp; omega) (fun e => ?_)).trans (Below.heap_alloc _ _ _ h8.2)
            exact HDIS.out k hk e.symm
          · intro k hk1 hk2
            have h8 := HOWN1.out.lt k hk1
            rcases q3 k hk2 with h9 | h9
            · exact HDIS.out k hk1 h9
            · simp at h9; omega
          · rw [hoth _ (by omega)]; exact (hk _ (lt_of_block HH0.out) (by omega)).trans HH0.out
          · rw [hoth _ (by omega)]; exact (hk _ (lt_of_block HH1.out) (by omega)).trans HH1.out
          · exact cells_set (j := 1) k2 _
          · have h7 := lt_of_block HH2.out
            exact ((HBEL.out.alloc HBEL.out.size _).grown q2 (by simp; omega) (fun k hk => by have := (World.ownsRow.lt HOA.out k hk).1; omega)).setCell (p := ⟨w.heap.size + 1 + 1, 1, none⟩) (by show w.heap.size ≤ w.heap.size + 1 + 1; omega) _
        case measure => simp [RowKit.intOf]; omega
      · obtain rfl : j = h.length := by omega
        have hi : ¬ (h.length : Int) < (h.length : Int) := by omega
        have HEND := Lib.hid (show OwnC 77 4 hdF (w.heap.size + 3) wr (.slice B1 n1 b1) h by rw [List.take_length] at hown; exact hown)
        have u0 : wr.cell? ⟨w.heap.size + 1 + 1, 0, none⟩ = some (.slice X1 m1 y1) := by rw [Lib.cell_of_heap h2]; rfl
        have u1 : wr.cell? ⟨w.heap.size + 1 + 1, 1, none⟩ = some (.slice B1 n1 b1) := by rw [Lib.cell_of_heap h2]; rfl
        have u2 : wr.cell? ⟨w.heap.size + 1 + 1, 2, none⟩ = some (.slice A3 n3 c3) := by rw [Lib.cell_of_heap h2]; rfl
        have u3 : wr.cell? ⟨w.heap.size + 1 + 1, 3, none⟩ = some (.slice A4 n4 c4) := by rw [Lib.cell_of_heap h2]; rfl
        have d0 : wr.cell? ⟨w.heap.size + 1, 0, none⟩ = some (.slice none 0 0) := by rw [Lib.cell_of_heap h1]; rfl
        have d1 : wr.cell? ⟨w.heap.size + 1, 1, none⟩ = some (.slice none 0 0) := by rw [Lib.cell_of_heap h1]; rfl
        have d2 : wr.cell? ⟨w.heap.size + 1, 2, none⟩ = some (.slice none 0 0) := by rw [Lib.cell_of_heap h1]; rfl
        have d3 : wr.cell? ⟨w.heap.size + 1, 3, none⟩ = some (.slice none 0 0) := by rw [Lib.cell_of_heap h1]; rfl
        have f0 := Lib.frozen_of_heap h1 0
        have f1 := Lib.frozen_of_heap h1 1
        have f2 := Lib.frozen_of_heap h1 2
        have f3 := Lib.frozen_of_heap h1 3
        clear hown hown1 hdis h0 h1 h2 hbel
        go_wp2_with fail
        have a0 := cells_set (j := 0) HH1.out (.slice X1 m1 y1)
        have a1 := cells_set (j := 1) a0 (.slice B1 n1 b1)
        have a2 := cells_set (j := 2) a1 (.slice A3 n3 c3)
        have a3 := cells_set (j := 3) a2 (.slice A4 n4 c4)
        have e0 := Lib.cell_of_heap a3 0
        have e1 := Lib.cell_of_heap a3 1
        have e2 := Lib.cell_of_heap a3 2
        have e3 := Lib.cell_of_heap a3 3
        simp only [List.setIfInBounds_toArray, List.set_cons_zero, List.set_cons_succ, List.getElem?_toArray, List.getElem?_cons_succ, List.getElem?_cons_zero] at e0 e1 e2 e3
        have hoth : ∀ k, k ≠ w.heap.size + 1 → ((((wr.setCell ⟨w.heap.size + 1, 0, none⟩ (.slice X1 m1 y1)).setCell ⟨w.heap.size + 1, 1, none⟩ (.slice B1 n1 b1)).setCell ⟨w.heap.size + 1, 2, none⟩ (.slice A3 n3 c3)).setCell ⟨w.heap.size + 1, 3, none⟩ (.slice A4 n4 c4)).heap[k]? = wr.heap[k]? := fun k hk => by
          have hh : ∀ (w' : World) (i : Nat) (x : Value), (w'.setCell ⟨w.heap.size + 1, i, none⟩ x).heap[k]? = w'.heap[k]? := fun w' i x => Below.heap_setCell _ _ _ _ hk
          rw [hh, hh, hh, hh]
        refine bodyPost_ret (v := .agg #[.slice X1 m1 y1, .slice B1 n1 b1, .slice A3 n3 c3, .slice A4 n4 c4]) (by
          simp [results, Tryd.f13, go_sem, e0, e1, e2, e3]) rfl ⟨_, _, rfl, ?_, ?_, ?_⟩
        · exact (HOWN1.out.heap (fun k hk => hoth k (by have := (HOWN1.out.lt k hk).1; omega))).mono (by omega)
        · exact (HEND.out.heap (fun k hk => hoth k (by have := (HEND.out.lt k hk).1; omega))).mono (by omega)
        · exact (((HBEL.out.setCell (p := ⟨w.heap.size + 1, 0, none⟩) (by simp) _).setCell (p := ⟨w.heap.size + 1, 1, none⟩) (by simp) _).setCell (p := ⟨w.heap.size + 1, 2, none⟩) (by simp) _).setCell (p := ⟨w.heap.size + 1, 3, none⟩) (by simp) _
end Go.Proofs.YtjmmfihmamcopaaDoor
