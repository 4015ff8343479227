/- record.Put. · record.Fresh. · stetref20.Same. · Rows of one record; worlds behind blocks. -/
import Derived.Test.YtiogmegdkfnkkaaGreatDoorQ6
import Derived.Test.YtiogmegdkfnkkaaGreatDoorQ4
namespace Go.Proofs.YtiogmegdkfnkkaaGreatDoor
open Go.RowKit Tx

theorem flat_set3 (rs : List Raw) (i : Nat) (r : Raw) : ((((rs.flatMap rf).set (i * 3) (.string (bs r.1))).set (i * 3 + 1) r.2.1).set (i * 3 + 2) r.2.2) = (rs.set i r).flatMap rf := by
  induction rs generalizing i with
  | nil => simp
  | cons a rs ih =>
    cases i with
    | zero => simp [List.flatMap_cons, rf]
    | succ i =>
      rw [List.set_cons_succ, List.flatMap_cons, List.flatMap_cons, ← ih i]
      rw [show (i + 1) * 3 = i * 3 + 1 + 1 + 1 by omega]
      simp [rf]
/-- One record set anew. -/
theorem OwnR.set {e : TypeId} {base g n cap : Nat} {w : World} {l : List Rc.Rec} {r : Raw} {x : Rc.Rec} {i : Nat} (h : OwnR e base w (.slice (some ⟨g, 0, none⟩) n cap) l) (hx : RecIs w w.heap.size r x) (ha : Away (some g) r x) (_hi : i < l.length) :
    OwnR e base (((w.setCell ⟨g, i * 3, none⟩ (.string (bs r.1))).setCell ⟨g, i * 3 + 1, none⟩ r.2.1).setCell ⟨g, i * 3 + 2, none⟩ r.2.2) (.slice (some ⟨g, 0, none⟩) n cap) (l.set i x) := by
  obtain ⟨rs, h1, h2, h3⟩ := h
  have hn : n = rs.length := by
    rcases h1.2 with ⟨h4, _⟩ | ⟨g', cap', cur, h4, _⟩
    · cases h4
    · injection h4
  subst hn
  have k := ((World.ownsRow.stored (World.ownsRow.stored (World.ownsRow.stored h1 (i * 3) (.string (bs r.1))).1 (i * 3 + 1) r.2.1).1 (i * 3 + 2) r.2.2)).1
  rw [flat_set3] at k
  refine ⟨rs.set i r, by simpa [OwnC] using k, by simp [h2], fun j hj hj' => ?_⟩
  have key : ∀ (q : Raw) (y : Rc.Rec), RecIs w w.heap.size q y → Away (some g) q y → RecIs (((w.setCell ⟨g, i * 3, none⟩ (.string (bs r.1))).setCell ⟨g, i * 3 + 1, none⟩ r.2.1).setCell ⟨g, i * 3 + 2, none⟩ r.2.2) (((w.setCell ⟨g, i * 3, none⟩ (.string (bs r.1))).setCell ⟨g, i * 3 + 1, none⟩ r.2.1).setCell ⟨g, i * 3 + 2, none⟩ r.2.2).heap.size q y := by
    intro q y hq haq
    refine hq.blk (by simp [World.setCell]) fun c hc hor => ?_
    have hne : c ≠ g := by
      rintro rfl
      rcases hor with ⟨hne, h⟩ | ⟨hne, h⟩
      · exact (haq c rfl).1 hne h
      · exact (haq c rfl).2 hne h
    rw [setCell_oth _ _ _ _ _ hne, setCell_oth _ _ _ _ _ hne, setCell_oth _ _ _ _ _ hne]
  simp only [List.length_set] at hj hj'
  by_cases hij : i = j
  · subst hij
    rw [List.getElem_set_self, List.getElem_set_self]
    exact ⟨key _ _ hx ha, ha⟩
  · rw [List.getElem_set_ne hij, List.getElem_set_ne hij]
    have := h3 j hj hj'
    exact ⟨key _ _ this.1 this.2, this.2⟩
theorem OwnR.form {e : TypeId} {base : Nat} {w : World} {v : Value} {l : List Rc.Rec} (h : OwnR e base w v l) (hne : l ≠ []) : ∃ g cap, v = .slice (some ⟨g, 0, none⟩) l.length cap ∧ base ≤ g ∧ g < w.heap.size ∧ l.length ≤ cap ∧ cap ≤ maxLen ∧ ∀ j, w.frozen? ⟨g, j, none⟩ = false := by
  obtain ⟨rs, h1, h2, h3⟩ := h
  have hne2 : rs ≠ [] := by rintro rfl; exact hne (List.eq_nil_of_length_eq_zero (by simpa using h2.symm))
  obtain ⟨g, cap, rfl, a, b, c, d, _⟩ := h1.shape rf_length hne2
  exact ⟨g, cap, by rw [h2], a, b, by omega, d, fun j => World.ownsRow.frozenAt h1 j⟩
theorem OwnR.frozenAt {e : TypeId} {base g n cap : Nat} {w : World} {l : List Rc.Rec} (h : OwnR e base w (.slice (some ⟨g, 0, none⟩) n cap) l) (j : Nat) : w.frozen? ⟨g, j, none⟩ = false := by
  obtain ⟨rs, h1, h2, h3⟩ := h
  have hn : n = rs.length := by
    rcases h1.2 with ⟨h4, _⟩ | ⟨g', cap', cur, h4, _⟩
    · cases h4
    · injection h4
  subst hn
  exact World.ownsRow.frozenAt h1 j
theorem OwnR.cellsAt {e : TypeId} {base g n cap : Nat} {w : World} {l : List Rc.Rec} (h : OwnR e base w (.slice (some ⟨g, 0, none⟩) n cap) l) {k : Nat} (hk : k < l.length) : ∃ a b c, w.cell? ⟨g, k * 3, none⟩ = some a ∧ w.cell? ⟨g, k * 3 + 1, none⟩ = some b ∧ w.cell? ⟨g, k * 3 + 2, none⟩ = some c := by
  obtain ⟨A, cap', h1, _, _, h2⟩ := h.row.shape
  injection h1 with e1 e2 e3
  obtain ⟨b, off, h3, _, r, ⟨c0, c1, c2⟩, _⟩ := h2 k hk
  rw [h3] at e1
  injection e1 with e1
  injection e1 with e1 e4
  subst e1 e4
  rw [Nat.zero_add] at c0 c1 c2
  exact ⟨_, _, _, c0, c1, c2⟩
theorem RecIs.rows {w : World} {B : Nat} {r : Raw} {x : Rc.Rec} (h : RecIs w B r x) : ∃ A p A' p', r = (x.1, .slice A x.2.1.length p, .slice A' x.2.2.length p') := by
  obtain ⟨A, p, e1, _⟩ := h.reads.shape
  obtain ⟨A', p', e2, _⟩ := h.writes.shape
  obtain ⟨a, b, c⟩ := r
  have := h.rule
  simp only at this e1 e2
  subst this e1 e2
  exact ⟨A, p, A', p', rfl⟩

set_option maxRecDepth 100000 in
set_option maxHeartbeats 8000000 in
theorem put_any (v : Value) (l : List Rc.Rec) (rz : Raw) (z : Rc.Rec) (w : World) (hr : RowR w w.heap.size v l) (hz : RecIs w w.heap.size rz z) (hn : l.length < 100000) (hs : ∀ x ∈ l, x.2.1.length ≤ 1000000 ∧ x.2.2.length ≤ 1000000) (hzs : z.2.1.length ≤ 1000000 ∧ z.2.2.length ≤ 1000000) :
    Calls Tryz.prog 27 #[v, .agg #[.string (bs rz.1), rz.2.1, rz.2.2]] w fun e w' => ∃ o, e = .returned o ∧ RowR w' w'.heap.size o (Rc.putR l z) ∧ Below w.heap.size w w' := by
  obtain ⟨A, cap, rfl, c1, c2, c3⟩ := hr.shape
  have HROW := Lib.hid hr
  have HC := Lib.hid c3
  have HS := Lib.hid hs
  obtain ⟨zA, zp, zA', zp', rfl⟩ := hz.rows
  have HZ := Lib.hid hz
  simp only
  obtain ⟨hz1, hz2⟩ := hzs
  clear c3 hr hs hz
  have hb0 : Below w.heap.size w (w.alloc (.cells #[.string (bs z.1), .slice zA z.2.1.length zp, .slice zA' z.2.2.length zp'] 42)) := (Below.refl _ _).alloc (Nat.le_refl _) _
  have hz0 : (w.alloc (.cells #[.string (bs z.1), .slice zA z.2.1.length zp, .slice zA' z.2.2.length zp'] 42)).heap[w.heap.size]? = some (.cells #[.string (bs z.1), .slice zA z.2.1.length zp, .slice zA' z.2.2.length zp'] 42 (0, 0)) := heap_alloc_new _ _
  go_enter Tryz.func27, Tryz.ntmps27
  go_wp2_with fail
  go_loopw [5, 11] (fun o i wr => ∃ k : Nat, k ≤ l.length ∧ i = .int .i64 k ∧ OwnR 42 (w.heap.size + 1) wr o (l.take k) ∧ Below (w.heap.size + 1) (w.alloc (.cells #[.string (bs z.1), .slice zA z.2.1.length zp, .slice zA' z.2.2.length zp'] 42)) wr) (fun _ i _ => l.length - (RowKit.intOf i).toNat)
  case atStart => exact ⟨0, Nat.zero_le _, rfl, OwnR.nil _ _ _, Below.refl _ _⟩
  case round =>
    obtain ⟨k, hk, rfl, hown, hbel⟩ := hrel
    have hle := hbel.size
    rw [show (w.alloc (.cells #[.string (bs z.1), .slice zA z.2.1.length zp, .slice zA' z.2.2.length zp'] 42)).heap.size = w.heap.size + 1 by simp] at hle
    have hol : (l.take k).length ≤ k := by simp; omega
    have hbw := hb0.trans (hbel.mono (Nat.le_succ _))
    have hzr := (hbel.block w.heap.size (by omega)).trans hz0
    by_cases hlt : k < l.length
    · obtain ⟨b, off, rfl, hbl, ⟨x0, r1, r2⟩, ⟨j1, j2, j3⟩, hrec⟩ := HC.out k hlt
      have HA : Hid (l.take (k + 1) = l.take k ++ [l[k]]) := Lib.hid (List.take_succ_eq_append_getElem hlt)
      obtain ⟨l1, l2⟩ := HS.out _ (List.getElem_mem hlt)
      generalize l[k] = x at *
      obtain ⟨B1, p1, B2, p2, hr3⟩ := hrec.rows
      injection hr3 with e1 e2
      injection e2 with e2 e3
      subst e1 e2 e3
      simp only at j1 j2 j3
      have k1 := (hbw.cell (p := ⟨b, off + k * 3, none⟩) hbl).trans j1
      have k2 := (hbw.cell (p := ⟨b, off + k * 3 + 1, none⟩) hbl).trans j2
      have k3 := (hbw.cell (p := ⟨b, off + k * 3 + 2, none⟩) hbl).trans j3
      clear j1 j2 j3
      have i0 : (0 : Int) ≤ (k : Int) := by omega
      have i1 : (k : Int) < (l.length : Int) := by omega
      have hal : Below wr.heap.size wr (wr.alloc (.cells #[.string (bs x.1), .slice B1 x.2.1.length p1, .slice B2 x.2.2.length p2] 42)) := (Below.refl _ _).alloc (Nat.le_refl _) _
      have hrec1 := ((hrec.below hbw (Nat.le_refl _)).more hbw.size).step hal
      have HO := Lib.hid (hown.below hal)
      clear hown hrec
      go_wp2_with (first
        | (go_at_call 42; refine (own_any (x.1, .slice B1 x.2.1.length p1, .slice B2 x.2.2.length p2) x _ hrec1 l1 l2).mono ?_; rintro e w2 ⟨ry, rfl, q1, q2, q3, hb3⟩; obtain ⟨C1, s1, C2, s2, hy⟩ := q1.rows; subst hy; dsimp only)
        | (at_builtin; refine wpList_recE 22 42 Tryz.underlying22 prInfo (by rfl) (.tmp 15) (.tmp 18) (by rfl) (w.heap.size + 1) _ (l.take k) (x.1, .slice C1 x.2.1.length s1, .slice C2 x.2.2.length s2) x (by rfl) (by rfl) (HO.out.below hb3) q1 (Away.of HO.out (fun b hb hne => .inr (q2 b hb)) (fun b hb hne => .inr (q3 b hb))) (Nat.le_trans hle (Nat.le_trans hal.size hb3.size)) (by omega) ?_; intro v' w4 h8 h9))
      go_roundw
      case rel => exact ⟨k + 1, by omega, by go_num, by rw [HA.out]; exact h8, hbel.trans ((hal.mono hle).trans ((hb3.mono (Nat.le_trans hle hal.size)).trans h9))⟩
      case measure => simp [RowKit.intOf]; omega
    · obtain rfl : k = l.length := by omega
      rw [List.take_length] at hown
      obtain ⟨z0, z1, z2, _, _, _⟩ := cells3 hzr
      have hrow2 := (HROW.out.below hbw (Nat.le_refl _)).more hbw.size
      have hz2' := (HZ.out.below hbw (Nat.le_refl _)).more hbw.size
      have hlt0 : w.heap.size < wr.heap.size := by omega
      rcases first_at l z.1 with ⟨k, hk, h1, h2⟩ | h1
      · have hcon := place_hit hrow2 (by omega) hk h1 h2
        have HP := Lib.hid (Rc.putR_at l z k hk h1 h2)
        have hne : l ≠ [] := by rintro rfl; simp at hk
        obtain ⟨g, oc, rfl, hg1, hg2, hg3, hg4, _⟩ := hown.form hne
        simp only [maxLen] at hg4
        have HO := Lib.hid hown
        have i0 : (0 : Int) ≤ (k : Int) := by omega
        have i1 : (k : Int) < (l.length : Int) := by omega
        clear hown h1 h2 hrow2 hne
        go_wp2_with (first
          | (go_at_call 41; refine hcon.mono ?_; rintro e w3 ⟨rfl, hb3⟩; have hz3 := (hb3.block _ hlt0).trans hzr; obtain ⟨y0, y1, y2, _, _, _⟩ := cells3 hz3; have hz4 := hz2'.step hb3; have ho3 := Lib.hid (HO.out.below hb3); dsimp only)
          | (go_at_call 42; refine (own_any (z.1, .slice zA z.2.1.length zp, .slice zA' z.2.2.length zp') z _ hz4 hz1 hz2).mono ?_; rintro e w5 ⟨ry, rfl, q1, q2, q3, hb5⟩; obtain ⟨C1, s1, C2, s2, hy⟩ := q1.rows; subst hy; have ho5 := Lib.hid (ho3.out.below hb5); obtain ⟨v0, v1, v2, a0, a1, a2⟩ := ho5.out.cellsAt hk; have f0 := ho5.out.frozenAt (k * 3); have f1 := ho5.out.frozenAt (k * 3 + 1); have f2 := ho5.out.frozenAt (k * 3 + 2); dsimp only))
        go_ret
        have hset := OwnR.set (i := k) ho5.out q1 (Away.of ho3.out (fun b hb hne => .inr (q2 b hb)) (fun b hb hne => .inr (q3 b hb))) hk
        refine ⟨_, rfl, by rw [HP.out]; exact hset.row, ?_⟩
        have hg0 : w.heap.size ≤ g := by omega
        exact (((hbw.trans ((hb3.mono hbw.size).trans (hb5.mono (Nat.le_trans hbw.size hb3.size)))).setCell (p := ⟨g, k * 3, none⟩) hg0 _).setCell (p := ⟨g, k * 3 + 1, none⟩) hg0 _).setCell (p := ⟨g, k * 3 + 2, none⟩) hg0 _
      · have hcon := place_miss hrow2 (by omega) h1
        have HP := Lib.hid (Rc.putR_none l z h1)
        have HO := Lib.hid hown
        clear hown h1 hrow2
        go_wp2_with (first
          | (go_at_call 41; refine hcon.mono ?_; rintro e w3 ⟨rfl, hb3⟩; have hz3 := (hb3.block _ hlt0).trans hzr; obtain ⟨y0, y1, y2, _, _, _⟩ := cells3 hz3; have hz4 := hz2'.step hb3; have ho3 := Lib.hid (HO.out.below hb3); dsimp only)
          | (go_at_call 42; refine (own_any (z.1, .slice zA z.2.1.length zp, .slice zA' z.2.2.length zp') z _ hz4 hz1 hz2).mono ?_; rintro e w5 ⟨ry, rfl, q1, q2, q3, hb5⟩; obtain ⟨C1, s1, C2, s2, hy⟩ := q1.rows; subst hy; dsimp only)
          | (at_builtin; refine wpList_recE 22 42 Tryz.underlying22 prInfo (by rfl) (.tmp 33) (.tmp 36) (by rfl) (w.heap.size + 1) _ l (z.1, .slice C1 z.2.1.length s1, .slice C2 z.2.2.length s2) z (by rfl) (by rfl) (ho3.out.below hb5) q1 (Away.of ho3.out (fun b hb hne => .inr (q2 b hb)) (fun b hb hne => .inr (q3 b hb))) (Nat.le_trans hle (Nat.le_trans hb3.size hb5.size)) (by omega) ?_; intro v' w6 h8 h9))
        go_ret
        exact ⟨_, rfl, by rw [HP.out]; exact h8.row, hbw.trans ((hb3.mono hbw.size).trans ((hb5.mono (Nat.le_trans hbw.size hb3.size)).trans (h9.mono (Nat.le_succ _))))⟩
end Go.Proofs.YtiogmegdkfnkkaaGreatDoor
namespace Go.Proofs.YtiogmegdkfnkkaaGreatDoor
open Go.RowKit Tx

theorem cells2 {w : World} {g : Nat} {a b : Value} {t : TypeId} (h : w.heap[g]? = some (.cells #[a, b] t (0, 0))) :
    w.cell? ⟨g, 0, none⟩ = some a ∧ w.cell? ⟨g, 1, none⟩ = some b ∧ w.frozen? ⟨g, 0, none⟩ = false ∧ w.frozen? ⟨g, 1, none⟩ = false := by
  simp [World.cell?, World.frozen?, h]
theorem freshS_eq (m : List Wr.F) (r : Rc.Seen) : Rc.freshS m r = decide (r = (r.1, (Rc.getF m r.1).2, (Rc.getF m r.1).1)) := by
  obtain ⟨a, b, c⟩ := r
  unfold Rc.freshS
  simp only
  generalize (Rc.getF m a).2 = y
  generalize (Rc.getF m a).1 = z
  by_cases h2 : b = y <;> by_cases h3 : c = z <;> simp [h2, h3]
set_option maxRecDepth 100000 in
set_option maxHeartbeats 8000000 in
theorem fresh_any (rz : Raw) (z : Rc.Rec) (v : Value) (m : List Wr.F) (w : World) (hz : RecIs w w.heap.size rz z) (hr : RowC 2 ff w w.heap.size v m) (hu : Up m) (hn : m.length < 1000000) (_hz1 : z.2.1.length < 1000000) (_hz2 : z.2.2.length < 1000000) :
    Calls Tryz.prog 28 #[.agg #[.string (bs rz.1), rz.2.1, rz.2.2], v] w fun e w' => e = .returned (.bool (Rc.fresh z m)) ∧ Below w.heap.size w w' := by
  obtain ⟨zA, zp, zA', zp', rfl⟩ := hz.rows
  simp only
  have HR := Lib.hid hr
  have HF : Hid (∀ q1 q2, z.2.1.all (Rc.freshS m) = q1 → z.2.2.all (Rc.freshW m) = q2 → Rc.fresh z m = (q1 && q2)) := Lib.hid fun q1 q2 h1 h2 => by rw [← h1, ← h2]; rfl
  obtain ⟨_, _, e1, _, _, h3⟩ := hz.reads.shape
  obtain ⟨_, _, e2, _, _, h4⟩ := hz.writes.shape
  simp only at e1 e2
  injection e1 with e1 _ e1'
  injection e2 with e2 _ e2'
  subst e1 e1' e2 e2'
  have H3 := Lib.hid h3
  have H4 := Lib.hid h4
  have hgu := pnG
  clear h3 h4 hr hz
  have hb0 : Below w.heap.size w (w.alloc (.cells #[.string (bs z.1), .slice zA z.2.1.length zp, .slice zA' z.2.2.length zp'] 42)) := (Below.refl _ _).alloc (Nat.le_refl _) _
  have hz0 : (w.alloc (.cells #[.string (bs z.1), .slice zA z.2.1.length zp, .slice zA' z.2.2.length zp'] 42)).heap[w.heap.size]? = some (.cells #[.string (bs z.1), .slice zA z.2.1.length zp, .slice zA' z.2.2.length zp'] 42 (0, 0)) := heap_alloc_new _ _
  have HQ0 := Lib.hid ((Below.refl w.heap.size w).alloc (Nat.le_refl _) (.cells #[.string (bs z.1), .slice zA z.2.1.length zp, .slice zA' z.2.2.length zp'] 42))
  go_enter Tryz.func28, Tryz.ntmps28
  go_wp2_with fail
  go_loopw [16] (fun i wr => ∃ k : Nat, k ≤ z.2.1.length ∧ i = .int .i64 k ∧ Hid ((z.2.1.take k).all (Rc.freshS m) = true) ∧ Below (w.heap.size + 1) (w.alloc (.cells #[.string (bs z.1), .slice zA z.2.1.length zp, .slice zA' z.2.2.length zp'] 42)) wr) (fun i _ => z.2.1.length - (RowKit.intOf i).toNat)
  case atStart => exact ⟨0, Nat.zero_le _, rfl, Lib.hid (by simp), Below.refl _ _⟩
  case round =>
    obtain ⟨k, hk, rfl, hall, hbel⟩ := hrel
    have hle := hbel.size
    rw [show (w.alloc (.cells #[.string (bs z.1), .slice zA z.2.1.length zp, .slice zA' z.2.2.length zp'] 42)).heap.size = w.heap.size + 1 by simp] at hle
    have hbw := hb0.trans (hbel.mono (Nat.le_succ _))
    have hzr := (hbel.block w.heap.size (by omega)).trans hz0
    by_cases hlt : k < z.2.1.length
    · obtain ⟨b, off, rfl, hbl, hcc⟩ := H3.out (by intro e; rw [e] at hlt; simp at hlt)
      obtain ⟨k1, k2, k3⟩ := sf_cells (fun i u hu => (hbw.cell (p := ⟨b, off + k * 3 + i, none⟩) hbl).trans (hcc k hlt i u hu))
      have HN := Lib.hid (Rc.all_next (Rc.freshS m) z.2.1 k hlt hall.out)
      have HNO := Lib.hid (Rc.all_upto (Rc.freshS m) z.2.1 k hlt)
      clear hcc
      generalize z.2.1[k] = r at *
      have hal : ∀ o, Below wr.heap.size wr (wr.alloc o) := fun o => (Below.refl _ _).alloc (Nat.le_refl _) o
      have hget := fun o => fget_any v m r.1 (wr.alloc o) (((HR.out.below hbw (Nat.le_refl _)).more hbw.size).step (hal o)) hu hn
      have HFS := Lib.hid (freshS_eq m r)
      generalize Rc.getF m r.1 = gf at *
      obtain ⟨r1, r2, r3⟩ := r
      obtain ⟨gt, gi⟩ := gf
      simp only at k1 k2 k3 hget
      have heq := eq_pseenAt (r1, r2, r3) (r1, gi, gt)
      have i0 : (0 : Int) ≤ (k : Int) := by omega
      have i1 : (k : Int) < (z.2.1.length : Int) := by omega
      have hnew := heap_alloc_new wr (.cells #[.string (bs r1), .bool r2, .string (bs r3)] 44)
      generalize hq : decide (((r1, r2, r3) : Rc.Seen) = (r1, gi, gt)) = q at *
      have HFQ : Hid (Rc.freshS m (r1, r2, r3) = q) := by show _ = _; rw [HFS.out, ← hq]
      clear hq HFS
      cases q with
      | true =>
        go_wp2_with (go_at_call 43; refine (hget _).mono ?_; rintro e w2 ⟨rfl, hb2⟩; have hz2 := (hb2.block _ (by simp)).trans hnew; obtain ⟨a1, a2, a3, _, _, _⟩ := cells3 hz2; dsimp only)
        go_roundw
        case rel => exact ⟨k + 1, by omega, by go_num, Lib.hid (HN.out HFQ.out), hbel.trans (((hal _).mono hle).trans (hb2.mono (Nat.le_trans hle (hal _).size)))⟩
        case measure => simp [RowKit.intOf]; omega
      | false =>
        have HFF : Hid (Rc.fresh z m = false) := Lib.hid (by rw [HF.out _ _ (HNO.out HFQ.out) rfl]; rfl)
        go_wp2_with (go_at_call 43; refine (hget _).mono ?_; rintro e w2 ⟨rfl, hb2⟩; have hz2 := (hb2.block _ (by simp)).trans hnew; obtain ⟨a1, a2, a3, _, _, _⟩ := cells3 hz2; dsimp only)
        go_ret
        exact ⟨ret_bool HFF.out.symm, hbw.trans (((hal _).mono hbw.size).trans (hb2.mono (Nat.le_trans hbw.size (hal _).size)))⟩
    · obtain rfl : k = z.2.1.length := by omega
      rw [List.take_length] at hall
      obtain ⟨z0, z1, z2, _, _, _⟩ := cells3 hzr
      go_wp2_with fail
      go_loopw [38] (fun i wr => ∃ k : Nat, k ≤ z.2.2.length ∧ i = .int .i64 k ∧ Hid ((z.2.2.take k).all (Rc.freshW m) = true) ∧ Below w.heap.size w wr) (fun i _ => z.2.2.length - (RowKit.intOf i).toNat)
      case atStart => exact ⟨0, Nat.zero_le _, rfl, Lib.hid (by simp), hbw⟩
      case round =>
        clear hbel hbw hzr hle z0 z1 z2
        obtain ⟨k, hk, rfl, hall2, hbw⟩ := hrel
        have hle := hbw.size
        by_cases hlt : k < z.2.2.length
        · obtain ⟨b, off, rfl, hbl, hcc⟩ := H4.out (by intro e; rw [e] at hlt; simp at hlt)
          obtain ⟨k1, k2⟩ := ff_cells (fun i u hu => (hbw.cell (p := ⟨b, off + k * 2 + i, none⟩) hbl).trans (hcc k hlt i u hu))
          have HN := Lib.hid (Rc.all_next (Rc.freshW m) z.2.2 k hlt hall2.out)
          have HNO := Lib.hid (Rc.all_upto (Rc.freshW m) z.2.2 k hlt)
          clear hcc
          generalize z.2.2[k] = r at *
          have hal : ∀ o, Below wr.heap.size wr (wr.alloc o) := fun o => (Below.refl _ _).alloc (Nat.le_refl _) o
          have hget := fun o => fget_any v m r.1 (wr.alloc o) (((HR.out.below hbw (Nat.le_refl _)).more hbw.size).step (hal o)) hu hn
          have HFS : Hid (Rc.freshW m r = ((Rc.getF m r.1).2 && r.2 == (Rc.getF m r.1).1)) := Lib.hid rfl
          generalize Rc.getF m r.1 = gf at *
          obtain ⟨r1, r2⟩ := r
          obtain ⟨gt, gi⟩ := gf
          simp only at k1 k2 hget HFS
          have i0 : (0 : Int) ≤ (k : Int) := by omega
          have i1 : (k : Int) < (z.2.2.length : Int) := by omega
          have hnew := heap_alloc_new wr (.cells #[.string (bs r1), .string (bs r2)] 46)
          cases gi with
          | false =>
            have HFF : Hid (Rc.fresh z m = false) := Lib.hid (by rw [HF.out _ _ rfl (HNO.out (by rw [HFS.out]; rfl))]; simp)
            go_wp2_with (go_at_call 43; refine (hget _).mono ?_; rintro e w2 ⟨rfl, hb2⟩; have hz2 := (hb2.block _ (by simp)).trans hnew; obtain ⟨a1, a2, _, _⟩ := cells2 hz2; dsimp only)
            go_ret
            exact ⟨ret_bool HFF.out.symm, hbw.trans (((hal _).mono hbw.size).trans (hb2.mono (Nat.le_trans hbw.size (hal _).size)))⟩
          | true =>
            by_cases he : r2 = gt
            · have HFQ : Hid (Rc.freshW m (r1, r2) = true) := Lib.hid (by rw [HFS.out, he]; simp)
              have hbe : ((bs gt).toList == (bs r2).toList) = true := by rw [toListB, toListB, he]; simp
              clear he
              go_wp2_with (go_at_call 43; refine (hget _).mono ?_; rintro e w2 ⟨rfl, hb2⟩; have hz2 := (hb2.block _ (by simp)).trans hnew; obtain ⟨a1, a2, _, _⟩ := cells2 hz2; dsimp only)
              go_roundw
              case rel => exact ⟨k + 1, by omega, by go_num, Lib.hid (HN.out HFQ.out), hbw.trans (((hal _).mono hbw.size).trans (hb2.mono (Nat.le_trans hbw.size (hal _).size)))⟩
              case measure => simp [RowKit.intOf]; omega
            · have HFF : Hid (Rc.fresh z m = false) := Lib.hid (by rw [HF.out _ _ rfl (HNO.out (by rw [HFS.out]; simp [he]))]; simp)
              have hbe : ((bs gt).toList == (bs r2).toList) = false := by rw [toListB, toListB]; exact beq_eq_false_iff_ne.2 (fun h => he h.symm)
              clear he
              go_wp2_with (go_at_call 43; refine (hget _).mono ?_; rintro e w2 ⟨rfl, hb2⟩; have hz2 := (hb2.block _ (by simp)).trans hnew; obtain ⟨a1, a2, _, _⟩ := cells2 hz2; dsimp only)
              go_ret
              exact ⟨ret_bool HFF.out.symm, hbw.trans (((hal _).mono hbw.size).trans (hb2.mono (Nat.le_trans hbw.size (hal _).size)))⟩
        · obtain rfl : k = z.2.2.length := by omega
          rw [List.take_length] at hall2
          have HFF : Hid (Rc.fresh z m = true) := Lib.hid (by rw [HF.out _ _ hall.out hall2.out]; rfl)
          go_wp2_with fail
          go_ret
          exact ⟨ret_bool HFF.out.symm, hbw⟩
end Go.Proofs.YtiogmegdkfnkkaaGreatDoor
namespace Go.Proofs.YtiogmegdkfnkkaaGreatDoor
open Go.RowKit Tx

theorem quiet_drew2 {P : Program} {f : FuncId} {args : Array Value} {w : World} {a n : Nat} {v : Value}
    (h : Calls P f args (w.drewN (a + n)) fun e w' => e = .returned v ∧ ∃ m, w' = (w.drewN (a + n)).drewN m) : Calls P f args (w.drewN (a + n)) fun e w'' => e = .returned v ∧ ∃ m, w'' = w.drewN (a + m) :=
  h.mono fun _ _ ⟨he, m, hm⟩ => ⟨he, n + m, by rw [hm, World.drewN_drewN, Nat.add_assoc]⟩
theorem seens_b {q : Bool} (v1 v2 : Value) (a b : List Rc.Seen) (w : World) (h1 : RowC 3 sf w w.heap.size v1 a) (h2 : RowC 3 sf w w.heap.size v2 b) (hn : a.length < 1000000) (hm : b.length < 1000000) (hq : decide (a = b) = q) :
    Calls Tryz.prog 25 #[v1, v2] w fun e w' => e = .returned (.bool q) ∧ ∃ n, w' = w.drewN n := by
  subst hq
  exact seens_any v1 v2 a b w h1 h2 hn hm
theorem ne_at {α : Type} {a b : List α} {k : Nat} (x y : α) (hx : a[k]? = some x) (hy : b[k]? = some y) (h : x ≠ y) : a ≠ b := by
  rintro rfl
  rw [hx] at hy
  injection hy with hy
  exact h hy
set_option maxRecDepth 100000 in
set_option maxHeartbeats 4000000 in
theorem same_any {q : Bool} (v1 v2 : Value) (a b : List Rc.Rec) (hq : q = true ↔ a = b) (w : World) (h1 : RowR w w.heap.size v1 a) (h2 : RowR w w.heap.size v2 b) (_hn : a.length < 1000000) (_hm : b.length < 1000000)
    (la : ∀ x ∈ a, x.2.1.length < 1000000 ∧ x.2.2.length < 1000000) (lb : ∀ x ∈ b, x.2.1.length < 1000000 ∧ x.2.2.length < 1000000) :
    Calls Tryz.prog 12 #[v1, v2] w fun e w' => e = .returned (.bool q) ∧ ∃ n, w' = w.drewN n := by
  have HQ := Lib.hid hq
  clear hq
  obtain ⟨A1, c1, rfl, p1, p2, p3⟩ := h1.shape
  obtain ⟨A2, c2, rfl, q1, q2, q3⟩ := h2.shape
  have P3 := Lib.hid p3
  have Q3 := Lib.hid q3
  have LA := Lib.hid la
  have LB := Lib.hid lb
  have hgu := fGuard
  clear p3 q3 h1 h2 la lb
  by_cases hl : a.length = b.length
  · have hle : (a.length : Int) = (b.length : Int) := by omega
    have hne : ((a.length : Int) != (b.length : Int)) = false := by rw [hle]; simp
    have HL := Lib.hid hl
    clear hl hle
    go_enter Tryz.func12, Tryz.ntmps12
    go_wp2_with fail
    go_loopw [5] (fun i wr => ∃ k n : Nat, k ≤ a.length ∧ i = .int .i64 k ∧ a.take k = b.take k ∧ wr = w.drewN n) (fun i _ => a.length - (RowKit.intOf i).toNat)
    case atStart => exact ⟨0, 0, Nat.zero_le _, rfl, rfl, rfl⟩
    case round =>
      obtain ⟨k, n, hk, rfl, htk, rfl⟩ := hrel
      have HT := Lib.hid htk
      clear htk
      by_cases hlt : k < a.length
      · have hltb : k < b.length := by rw [← HL.out]; exact hlt
        obtain ⟨g1, o1, rfl, hg1, ⟨x0, u1, u2⟩, ⟨j1, j2, j3⟩, hx⟩ := P3.out k hlt
        obtain ⟨g2, o2, rfl, hg2, ⟨y0, t1, t2⟩, ⟨i1, i2, i3⟩, hy⟩ := Q3.out k hltb
        simp only at j1 j2 j3 i1 i2 i3
        have HA : Hid (a.take (k + 1) = a.take k ++ [a[k]]) := Lib.hid (List.take_succ_eq_append_getElem hlt)
        have HB : Hid (b.take (k + 1) = b.take k ++ [b[k]]) := Lib.hid (List.take_succ_eq_append_getElem hltb)
        have HAX : Hid (a[k]? = some a[k]) := Lib.hid (List.getElem?_eq_getElem hlt)
        have HBX : Hid (b[k]? = some b[k]) := Lib.hid (List.getElem?_eq_getElem hltb)
        obtain ⟨x1, x2⟩ := LA.out _ (List.getElem_mem hlt)
        obtain ⟨y1, y2⟩ := LB.out _ (List.getElem_mem hltb)
        generalize a[k] = x at *
        generalize b[k] = y at *
        have HNE : Hid (x ≠ y → q = false) := Lib.hid fun h => Bool.eq_false_iff.2 fun e => ne_at x y HAX.out HBX.out h (HQ.out.1 e)
        obtain ⟨s1, d1, e1, _, _, _⟩ := hx.reads.shape
        obtain ⟨s2, d2, e2, _, r1, z1⟩ := hx.writes.shape
        obtain ⟨s3, d3, e3, _, _, _⟩ := hy.reads.shape
        obtain ⟨s4, d4, e4, _, r2, z2⟩ := hy.writes.shape
        simp only at e1 e2 e3 e4
        subst e1 e2 e3 e4
        have HX := Lib.hid hx.reads
        have HY := Lib.hid hy.reads
        have HXR : Hid (x0 = x.1) := Lib.hid hx.rule
        have HYR : Hid (y0 = y.1) := Lib.hid hy.rule
        have Z1 := Lib.hid z1
        have Z2 := Lib.hid z2
        clear z1 z2 hx hy HAX HBX
        have m1 : (k : Int) < (a.length : Int) := by omega
        have m2 : (k : Int) < (b.length : Int) := by omega
        have m3 : (0 : Int) ≤ (k : Int) := by omega
        by_cases hru : x0 = y0
        · have hbe : ((bs x0).toList == (bs y0).toList) = true := by rw [toListB, toListB, hru]; simp
          have HRU := Lib.hid hru
          clear hru
          by_cases hse : x.2.1 = y.2.1
          · have hdec : decide (x.2.1 = y.2.1) = true := decide_eq_true hse
            have HSE := Lib.hid hse
            have HDE := Lib.hid hdec
            clear hse hdec
            by_cases hwl : x.2.2.length = y.2.2.length
            · have hwl2 : ((x.2.2.length : Int) != (y.2.2.length : Int)) = false := by rw [show (x.2.2.length : Int) = (y.2.2.length : Int) by omega]; simp
              have HWL := Lib.hid hwl
              clear hwl
              go_wp2_with fail
              go_quiet ((go_at_call 25; exact quiet_drew2 (seens_b _ _ x.2.1 y.2.1 _ HX.out HY.out x1 y1 HDE.out)))
              go_wp2_with fail
              go_loopw [6] (fun i wr => ∃ j n : Nat, j ≤ x.2.2.length ∧ i = .int .i64 j ∧ x.2.2.take j = y.2.2.take j ∧ wr = w.drewN n) (fun i _ => x.2.2.length - (RowKit.intOf i).toNat)
              case atStart => exact ⟨0, _, Nat.zero_le _, rfl, rfl, by first | rfl | exact World.drewN_drewN _ _ _⟩
              case round =>
                obtain ⟨j, n2, hj, rfl, hjk, rfl⟩ := hrel
                have HJ := Lib.hid hjk
                clear hjk
                by_cases hjt : j < x.2.2.length
                · have hjt2 : j < y.2.2.length := by rw [← HWL.out]; exact hjt
                  obtain ⟨g3, o3, rfl, hg3, hc3⟩ := Z1.out (by intro e; rw [e] at hjt; simp at hjt)
                  obtain ⟨g4, o4, rfl, hg4, hc4⟩ := Z2.out (by intro e; rw [e] at hjt2; simp at hjt2)
                  obtain ⟨f1, f2⟩ := ff_cells (fun i u hu => hc3 j hjt i u hu)
                  obtain ⟨f3, f4⟩ := ff_cells (fun i u hu => hc4 j hjt2 i u hu)
                  have HC : Hid (x.2.2.take (j + 1) = x.2.2.take j ++ [x.2.2[j]]) := Lib.hid (List.take_succ_eq_append_getElem hjt)
                  have HD : Hid (y.2.2.take (j + 1) = y.2.2.take j ++ [y.2.2[j]]) := Lib.hid (List.take_succ_eq_append_getElem hjt2)
                  have HCX : Hid (x.2.2[j]? = some x.2.2[j]) := Lib.hid (List.getElem?_eq_getElem hjt)
                  have HDX : Hid (y.2.2[j]? = some y.2.2[j]) := Lib.hid (List.getElem?_eq_getElem hjt2)
                  clear hc3 hc4
                  generalize x.2.2[j] = p at *
                  generalize y.2.2[j] = s at *
                  have m4 : (j : Int) < (x.2.2.length : Int) := by omega
                  have m5 : (j : Int) < (y.2.2.length : Int) := by omega
                  have m6 : (0 : Int) ≤ (j : Int) := by omega
                  have heq := eqAtF p s
                  by_cases hps : p = s
                  · subst hps
                    rw [eqF_self] at heq
                    go_wp2_with fail
                    go_quiet (fail)
                    go_wp2_with fail
                    go_roundw
                    case rel => exact ⟨j + 1, _, by omega, by go_num, by rw [HC.out, HD.out, HJ.out], by first | rfl | exact World.drewN_drewN _ _ _⟩
                    case measure => simp [RowKit.intOf]; omega
                  · rw [eqF_ne _ _ hps] at heq
                    have HNO : Hid (q = false) := Lib.hid (HNE.out fun e => ne_at p s HCX.out HDX.out hps (by rw [e]))
                    clear hps
                    go_wp2_with fail
                    go_quiet (fail)
                    go_wp2_with fail
                    go_ret
                    exact ⟨ret_bool HNO.out.symm, _, by first | rfl | exact World.drewN_drewN _ _ _⟩
                · obtain rfl : j = x.2.2.length := by omega
                  have HXY : Hid (x = y) := by
                    have h := HJ.out
                    rw [List.take_length, List.take_of_length_le (by rw [HWL.out]; exact Nat.le_refl _)] at h
                    exact Prod.ext (by rw [← HXR.out, ← HYR.out]; exact HRU.out) (Prod.ext HSE.out h)
                  go_wp2_with fail
                  go_roundw
                  case rel => exact ⟨k + 1, _, by omega, by go_num, by rw [HA.out, HB.out, HT.out, HXY.out], by first | rfl | exact World.drewN_drewN _ _ _⟩
                  case measure => simp [RowKit.intOf]; omega
            · have hwl2 : ((x.2.2.length : Int) != (y.2.2.length : Int)) = true := by simp; omega
              have HNO : Hid (q = false) := Lib.hid (HNE.out fun e => hwl (by rw [e]))
              clear hwl
              go_wp2_with fail
              go_quiet ((go_at_call 25; exact quiet_drew2 (seens_b _ _ x.2.1 y.2.1 _ HX.out HY.out x1 y1 HDE.out)))
              go_wp2_with fail
              go_ret
              exact ⟨ret_bool HNO.out.symm, _, by first | rfl | exact World.drewN_drewN _ _ _⟩
          · have hdec : decide (x.2.1 = y.2.1) = false := decide_eq_false hse
            have HDE := Lib.hid hdec
            have HNO : Hid (q = false) := Lib.hid (HNE.out fun e => hse (by rw [e]))
            clear hse hdec
            go_wp2_with fail
            go_quiet ((go_at_call 25; exact quiet_drew2 (seens_b _ _ x.2.1 y.2.1 _ HX.out HY.out x1 y1 HDE.out)))
            go_wp2_with fail
            go_ret
            exact ⟨ret_bool HNO.out.symm, _, by first | rfl | exact World.drewN_drewN _ _ _⟩
        · have hbe : ((bs x0).toList == (bs y0).toList) = false := by rw [toListB, toListB]; exact beq_eq_false_iff_ne.2 hru
          have HNO : Hid (q = false) := Lib.hid (HNE.out fun e => hru (by rw [HXR.out, HYR.out, e]))
          clear hru
          go_wp2_with fail
          go_quiet (fail)
          go_wp2_with fail
          go_ret
          exact ⟨ret_bool HNO.out.symm, _, by first | rfl | exact World.drewN_drewN _ _ _⟩
      · obtain rfl : k = a.length := by omega
        have HE : Hid (q = true) := by
          show _ = _
          have h := HT.out
          rw [List.take_length, List.take_of_length_le (by rw [HL.out]; exact Nat.le_refl _)] at h
          exact HQ.out.2 h
        go_wp2_with fail
        go_ret
        exact ⟨ret_bool HE.out.symm, n, rfl⟩
  · have hne : ((a.length : Int) != (b.length : Int)) = true := by simp; omega
    have HE : Hid (q = false) := Lib.hid (Bool.eq_false_iff.2 fun e => hl (by rw [HQ.out.1 e]))
    clear hl
    go_enter Tryz.func12, Tryz.ntmps12
    go_wp2_with fail
    go_ret
    exact ⟨ret_bool HE.out.symm, 0, rfl⟩
end Go.Proofs.YtiogmegdkfnkkaaGreatDoor
namespace Go.Proofs.YtiogmegdkfnkkaaGreatDoor
open Go.RowKit Tx

theorem rowR_one {W : World} {g : Nat} {r : Raw} {x : Rc.Rec} {t : TypeId} (h : W.heap[g]? = some (.cells #[.string (bs r.1), r.2.1, r.2.2] t (0, 0))) (hx : RecIs W W.heap.size r x) : RowR W W.heap.size (.slice (some ⟨g, 0, none⟩) 1 1) [x] :=
  ⟨[r], rowC_block (l := [r]) rf_length h (lt_of_block h) (by simp [maxLen]), rfl, fun i h h' => by
    have : i = 0 := by simp at h; omega
    subst this
    exact hx⟩
theorem Bal {V W : World} (h : Below V.heap.size V W) {o : Obj} : Below V.heap.size V (W.alloc o) := h.alloc h.size o
theorem Bal2 {V W : World} (h : Below V.heap.size V W) {o o' : Obj} : Below V.heap.size V ((W.alloc o).alloc o') := Bal (Bal h)
theorem Dr {V W : World} (h : Below V.heap.size V W) : Below V.heap.size V W.drew := h.drew
theorem second_new (W : World) (o o' : Obj) : ((W.alloc o).alloc o').heap[W.heap.size]? = some o := (Below.heap_alloc _ _ _ (by simp)).trans (heap_alloc_new _ _)
theorem third_new (W : World) (o o' : Obj) : ((W.alloc o).alloc o').heap[W.heap.size + 1]? = some o' := by
  have := heap_alloc_new (W.alloc o) o'
  simpa using this
/-- The piece 'l[k:k+1]'. -/
theorem RowR.at {w : World} {B b off n cap : Nat} {l : List Rc.Rec} (h : RowR w B (.slice (some ⟨b, off, none⟩) n cap) l) {k : Nat} (hk : k < l.length) : RowR w B (.slice (some ⟨b, off + k * 3, none⟩) 1 (cap - k)) [l[k]] := by
  obtain ⟨rs, h1, h2, h3⟩ := h
  obtain ⟨hn, hc, hm, hcell⟩ := h1.bounds
  have hkr : k < rs.length := by omega
  obtain ⟨b', off', e, hb, hc'⟩ := hcell k hkr
  injection e with e
  injection e with e1 e2
  subst e1 e2
  refine ⟨[rs[k]], ⟨cap - k, by simp; omega, by simp only [maxLen]; omega, .inr ⟨b, off + k * 3, rfl, hb, fun j hj i u hu => ?_⟩⟩, rfl, fun i hi hi' => ?_⟩
  · have : j = 0 := by simp at hj; omega
    subst this
    have := hc' i u hu
    simpa using this
  · have : i = 0 := by simp at hi; omega
    subst this
    exact h3 k hkr hk
theorem slAddr_at {b off k cap : Nat} (h : k < cap) (s : Nat) : slAddr (some ⟨b, off, none⟩) k cap s = some ⟨b, off + k * s, none⟩ := by
  unfold slAddr
  rw [if_neg (by omega)]
  simp [Addr.add_lit]
theorem find_isSome (l : List Rc.Rec) (r : Bs) : (Rc.find l r).isSome = l.any (fun y => y.1 == r) := by
  unfold Rc.find
  rw [List.isSome_find?]
/-- No two records of one rule. -/
def Uniq (l : List Rc.Rec) : Prop := l.Pairwise fun x y => x.1 ≠ y.1
theorem Uniq.find {l : List Rc.Rec} (h : Uniq l) {k : Nat} (hk : k < l.length) : Rc.find l l[k].1 = some l[k] := by
  refine Rc.find_at l _ k hk ?_ (by simp)
  rw [List.any_eq_false]
  intro y hy
  obtain ⟨j, hj, rfl⟩ := List.mem_take_iff_getElem.1 hy
  have := List.pairwise_iff_getElem.1 h j k (by omega) hk (by omega)
  simpa using this
theorem putR_mem {l : List Rc.Rec} {x y : Rc.Rec} (h : y ∈ Rc.putR l x) : y = x ∨ y ∈ l := by
  induction l with
  | nil => left; simpa [Rc.putR] using h
  | cons a l ih =>
    have h' : y ∈ (if a.1 == x.1 then x :: l else a :: Rc.putR l x) := h
    split at h'
    · rcases List.mem_cons.1 h' with h1 | h1
      · exact .inl h1
      · exact .inr (by simp [h1])
    · rcases List.mem_cons.1 h' with h1 | h1
      · exact .inr (by simp [h1])
      · rcases ih h1 with h2 | h2
        · exact .inl h2
        · exact .inr (by simp [h2])
theorem Uniq.put {l : List Rc.Rec} (h : Uniq l) (x : Rc.Rec) : Uniq (Rc.putR l x) := by
  induction l with
  | nil => unfold Uniq Rc.putR; simp
  | cons a l ih =>
    obtain ⟨h1, h2⟩ := List.pairwise_cons.1 h
    show Uniq (if a.1 == x.1 then x :: l else a :: Rc.putR l x)
    split
    · next e =>
      have e : a.1 = x.1 := by simpa using e
      exact List.pairwise_cons.2 ⟨fun y hy => by rw [← e]; exact h1 y hy, h2⟩
    · next e =>
      have e : ¬ a.1 = x.1 := by simpa using e
      refine List.pairwise_cons.2 ⟨fun y hy => ?_, ih h2⟩
      rcases putR_mem hy with rfl | hy
      · exact e
      · exact h1 y hy
theorem put_le (l : List Rc.Rec) (x : Rc.Rec) : (Rc.putR l x).length ≤ l.length + 1 := by
  rw [Rc.put_len]; split <;> omega
/-- What was put of the first k. -/
def puts (l : List Rc.Rec) (k : Nat) : List Rc.Rec := (l.take k).foldl Rc.putR []
theorem puts_step (l : List Rc.Rec) (k : Nat) (h : k < l.length) : puts l (k + 1) = Rc.putR (puts l k) l[k] := by
  unfold puts
  rw [List.take_succ_eq_append_getElem h, List.foldl_append]
  rfl
theorem puts_ok (l : List Rc.Rec) (k : Nat) (hk : k ≤ l.length) : Uniq (puts l k) ∧ (puts l k).length ≤ k ∧ ∀ y ∈ puts l k, y ∈ l := by
  induction k with
  | zero => exact ⟨List.Pairwise.nil, by simp [puts], by simp [puts]⟩
  | succ k ih =>
    obtain ⟨h1, h2, h3⟩ := ih (by omega)
    rw [puts_step l k (by omega)]
    refine ⟨h1.put _, by have := put_le (puts l k) l[k]; omega, fun y hy => ?_⟩
    rcases putR_mem hy with rfl | hy
    · exact List.getElem_mem _
    · exact h3 y hy
end Go.Proofs.YtiogmegdkfnkkaaGreatDoor
