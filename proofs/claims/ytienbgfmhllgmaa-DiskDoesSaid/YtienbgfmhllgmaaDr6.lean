/- The walk of stetref04's Copy. -/
import Derived.Test.YtienbgfmhllgmaaRows
import Derived.Test.YtienbgfmhllgmaaKit
import Derived.Test.YtienbgfmhllgmaaDk2
import Derived.Test.YtienbgfmhllgmaaDr2
import Derived.Test.YtienbgfmhllgmaaDr3
import Derived.Test.YtienbgfmhllgmaaDr4
import Derived.Test.YtienbgfmhllgmaaDr5
import Derived.Deep.AppendLies
namespace Go.Proofs.Ytienbgfmhllgmaa
open Go.Maps Go.RowKit

section
variable {P : Program} (w : World)
/-- 'append([]T{}, xs...)', xs of at least one element: at a step of a region that draws. -/
theorem step_clone {ops : Array Oper} {o : Oper} {a : Act} {K : Act → World → Prop} {Q : Exit → Act → World → Prop} {E : Prop} (hgd : o.guard = none) (s x : Operand) (t : TypeId)
    (ho : o.op = .call { callee := .builtin .append, args := #[s, x], argTypes := #[t, t] })
    (e : TypeId) (i : TypeInfo) (z : Value) (bytes : Nat) (ht : P.underlying t = some (.slice e)) (hi : P.info? e = some i) (hz : i.zero = some z)
    (hsize : i.size = 1) (hby : i.bytes = bytes) (hzs : z.cells.size = 1) (a0 : Addr) (hs : a.eval s = .slice (some a0) 0 0)
    (ad : Addr) (m c : Nat) (xs : List Value) (hx : a.eval x = .slice (some ad) m c) (hl : xs.length = m) (hnews : ∀ j u, xs[j]? = some u → w.cell? (ad.add j) = some u)
    (hm : 0 < m) (h63 : m ≤ maxLen) (hbytes : m * bytes ≤ 140737488355328)
    (h : ∀ g cap w', w'.ownsRow w.heap.size e 1 (.slice (some ⟨g, 0, none⟩) m cap) m xs → Below w.heap.size w w' → K (a.put o.dst (.slice (some ⟨g, 0, none⟩) m cap)) w') :
    if Region.wanted o (yielded ops a.tmps) = true then Oper.wp P o a w K Q else E := by
  have hw : Region.wanted o (yielded ops a.tmps) = true := by simp [Region.wanted, hgd]
  rw [if_pos hw]
  have hr := run_append_grow (P := P) w t o.type e i z ht hi hz a0 0 0 [] (by simp) (by simp) ad m c xs (by rw [hsize]; omega) hnews (by omega) (by simp only [maxLen] at h63; omega) (growslice_fits (by omega) (by rw [hby, Nat.zero_add]; exact hbytes))
  simp only [Nat.zero_add] at hr
  have hge := grownCap_ge w m 0 e
  have hcm := grownCap_le_maxLen w m 0 e h63
  obtain ⟨cs, hcs⟩ : ∃ cs, (#[] ++ xs.toArray ++ Builtin.zeroCells z.cells (grownCap w m 0 e - m)) = cs := ⟨_, rfl⟩
  have hc1 : cs.size = grownCap w m 0 e * 1 := by
    rw [← hcs]
    simp only [Array.size_append, List.size_toArray, size_zeroCells, hzs, hl, List.length_nil]
    omega
  have hc2 : cs.toList.take (m * 1) = xs := by
    rw [← hcs, Nat.mul_one]
    simp [← hl]
  rw [hcs] at hr
  have key := h w.heap.size (grownCap w m 0 e) (w.drew.alloc (.cells cs e)) ⟨by omega, .inr ⟨w.heap.size, grownCap w m 0 e, cs, rfl, Nat.le_refl _, heap_alloc_new w.drew _, hge, hcm, hc1, hc2⟩⟩ (((Below.refl w.heap.size w).drew).alloc (Nat.le_refl _) _)
  unfold Oper.wp execOp
  simp only [ho, resolve, invoke, builtin, Sem.run_bind, Sem.run_pure, Result.andThen_ok, List.map_toArray, List.map_cons, List.map_nil, hs, hx, hr]
  exact key
/-- .. of none. -/
theorem run_clone_none (t ty e : TypeId) (i : TypeInfo) (ht : P.underlying t = some (.slice e)) (hi : P.info? e = some i) (hsize : i.size = 1) (a0 : Addr) (A : Option Addr) (c : Nat) :
    (Builtin.append_ #[t, t] ty #[.slice (some a0) 0 0, .slice A 0 c]).run P w = .ok (.slice (some a0) 0 0) w := by
  cases A <;> simp [Builtin.append_, run_underlying ht, sizeOf, typeInfo, hi, Builtin.lenOf, Builtin.firstCells, loadCells, loadCellsFrom, storeCells]
end

/-- What a region that copies must keep. -/
abbrev Rd.CS (w : World) (br : Nat) (v a b : Value) (l : Int) (wx : World) : Prop :=
  wx.cell? ⟨br, 0, none⟩ = some v ∧ wx.cell? ⟨br, 1, none⟩ = some a ∧ wx.cell? ⟨br, 2, none⟩ = some b ∧ wx.cell? ⟨br, 3, none⟩ = some (.int .i64 l) ∧ br < w.heap.size ∧ Below w.heap.size w wx
theorem Rd.CS.below {w : World} {br : Nat} {v a b : Value} {l : Int} {wx wy : World} (h : Rd.CS w br v a b l wx) (hb : Below wx.heap.size wx wy) : Rd.CS w br v a b l wy := by
  obtain ⟨h0, h1, h2, h3, h4, h5⟩ := h
  have hk : ∀ j, wy.cell? ⟨br, j, none⟩ = wx.cell? ⟨br, j, none⟩ := fun j => World.cell?_of_block (a := ⟨br, j, none⟩) (hb.block br (Nat.lt_of_lt_of_le h4 h5.size))
  exact ⟨(hk 0).trans h0, (hk 1).trans h1, (hk 2).trans h2, (hk 3).trans h3, h4, h5.trans (hb.mono h5.size)⟩
theorem Rd.CS.alloc {w : World} {br : Nat} {v a b : Value} {l : Int} {wx : World} (h : Rd.CS w br v a b l wx) (o : Obj) : Rd.CS w br v a b l (wx.alloc o) := h.below ((Below.refl _ _).alloc (Nat.le_refl _) o)
theorem Rd.CS.get {w : World} {br : Nat} {v a b : Value} {l : Int} {wx : World} {ad : Addr} {u : Value} (h : Rd.CS w br v a b l wx) (hc : w.cell? ad = some u) : wx.cell? ad = some u :=
  (World.cell?_of_block (h.2.2.2.2.2.block _ (World.block_lt_of_cell? _ _ hc))).trans hc
theorem Rd.CS.size {w : World} {br : Nat} {v a b : Value} {l : Int} {wx : World} (h : Rd.CS w br v a b l wx) : w.heap.size ≤ wx.heap.size := h.2.2.2.2.2.size
theorem Rd.CS.via {w : World} {br : Nat} {v a b : Value} {l : Int} {wx wy : World} (h : Rd.CS w br v a b l wx) (hb : Below wx.heap.size wx wy) : Below w.heap.size w wy := (h.below hb).2.2.2.2.2
theorem below_via {a x y : World} (h : Below a.heap.size a x) (hb : Below x.heap.size x y) : Below a.heap.size a y := h.trans (hb.mono h.size)

theorem Rd.copy_fin (t : Rd.St) (w w1 w2 w3 : World) (g1 g2 g3 c1 c2 c3 B1 B2 B3 : Nat) (hL : 0 < t.L.length ∧ t.L.length ≤ 4096) (hwf : (Lit.int .i64 t.left).wf = true ∧ ∀ u ∈ t.pend, (Lit.int .i64 u.1).wf = true ∧ 0 ≤ u.1 ∧ u.1 < t.L.length)
    (o1 : w1.ownsRow B1 9 1 (.slice (some ⟨g1, 0, none⟩) t.L.length c1) t.L.length (t.L.map .string)) (q1 : w.heap.size ≤ g1)
    (o2 : w2.ownsRow B2 3 1 (.slice (some ⟨g2, 0, none⟩) t.pend.length c2) t.pend.length (t.pend.map fun u => .int .i64 u.1)) (q2 : w1.heap.size ≤ g2) (b2 : Below w1.heap.size w1 w2)
    (o3 : w3.ownsRow B3 9 1 (.slice (some ⟨g3, 0, none⟩) t.pend.length c3) t.pend.length (t.pend.map fun u => .string u.2)) (q3 : w2.heap.size ≤ g3) (b3 : Below w2.heap.size w2 w3)
    (hb : Below w.heap.size w w3) (v' : World) (hv : v' = w3.alloc (Rd.blk (.slice (some ⟨g1, 0, none⟩) t.L.length c1) (.slice (some ⟨g2, 0, none⟩) t.pend.length c2) (.slice (some ⟨g3, 0, none⟩) t.pend.length c3) t.left)) :
    ∃ G, Below w.heap.size w v' ∧ Rd.Of w3.heap.size t v' G ∧ ∀ k ∈ G, w.heap.size ≤ k := by
  subst hv
  have l1 := (o1.lt g1 rfl).2
  have l2 := (o2.lt g2 rfl).2
  have l3 := (o3.lt g3 rfl).2
  have s2 := b2.size
  have s3 := b3.size
  have s0 := hb.size
  have o13 := (own_below o1 (below_via b2 b3)).alloc (Rd.blk (.slice (some ⟨g1, 0, none⟩) t.L.length c1) (.slice (some ⟨g2, 0, none⟩) t.pend.length c2) (.slice (some ⟨g3, 0, none⟩) t.pend.length c3) t.left)
  rcases o13.2 with ⟨e, _⟩ | ⟨g, cap, cur, e, _, hg, hnc, hcm, hcs, htk⟩
  · cases e
  · cases e
    refine ⟨_, hb.alloc s0 _, ⟨g1, c1, cur, _, _, heap_alloc_new _ _, hg, fun j hj => ?_, ⟨hL.1, hL.2, hnc, hcm⟩, own_base ((own_below o2 b3).alloc _) (Nat.zero_le _), own_base (o3.alloc _) (Nat.zero_le _), ⟨by omega, by simp [Value.ownBlock]; omega, by simp [Value.ownBlock]; omega, by simp [Value.ownBlock]; omega, by simp [Value.ownBlock]; omega, by simp [Value.ownBlock]; omega⟩, hwf, rfl⟩, fun k hk => ?_⟩
    · have := congrArg (fun l : List Value => l[j]?) htk
      simp only [Nat.mul_one] at this
      rw [List.getElem?_take, if_pos hj] at this
      simpa [hj] using this
    · simp [Value.ownBlock] at hk
      omega

set_option maxHeartbeats 4000000 in
theorem rCopy_some (br : Nat) (t : Rd.St) (F : List Nat) (w : World) (hd : Rd.Of br t w F) (hp : t.pend.length < 1000000) (hne : t.pend ≠ []) :
    Calls Try.prog 18 #[.pointer (some ⟨br, 0, none⟩)] w fun e w' => ∃ bc, e = .returned (.pointer (some ⟨bc, 0, none⟩)) ∧ ∃ G, Below w.heap.size w w' ∧ Rd.Of bc t w' G ∧ ∀ k ∈ G, w.heap.size ≤ k := by
  obtain ⟨bl, cl, cur, a, b, h1, h2, h3, h4, h5, h6, h7, h8, rfl⟩ := hd
  obtain ⟨i0, hi0, hz0, hz1, hz2⟩ := info_parts intInfo2
  obtain ⟨j0, hj0, hy0, hy1, hy2⟩ := info_parts strInfo
  obtain ⟨Aa, ca, rfl⟩ := Rd.own_form h5
  obtain ⟨Ab, cb, rfl⟩ := Rd.own_form h6
  obtain ⟨ga, rfl, _, _⟩ := Rd.own_cell h5 hne
  obtain ⟨gb, rfl, _, _⟩ := Rd.own_cell h6 hne
  have n1 : Hid (∀ j u, (t.L.map Value.string)[j]? = some u → w.cell? ((⟨bl, 0, none⟩ : Addr).add j) = some u) := fun j u hj => by
    rw [Addr.add_lit, Dk.cell_of h2]
    simp only [List.getElem?_map, Option.map_eq_some_iff] at hj
    obtain ⟨s, hs, rfl⟩ := hj
    obtain ⟨hj, rfl⟩ := List.getElem?_eq_some_iff.1 hs
    rw [Nat.zero_add]; exact h3 j hj
  have n2 := Lib.hid (h5.cells (g := ga) rfl)
  have n3 := Lib.hid (h6.cells (g := gb) rfl)
  have hn : 0 < t.pend.length := List.length_pos_iff.2 hne
  have c0 : w.cell? ⟨br, 0, none⟩ = some (.slice (some ⟨bl, 0, none⟩) t.L.length cl) := by rw [Dk.cell_of h1]; rfl
  have c1 : w.cell? ⟨br, 1, none⟩ = some (.slice (some ⟨ga, 0, none⟩) t.pend.length ca) := by rw [Dk.cell_of h1]; rfl
  have c2 : w.cell? ⟨br, 2, none⟩ = some (.slice (some ⟨gb, 0, none⟩) t.pend.length cb) := by rw [Dk.cell_of h1]; rfl
  have c3 : w.cell? ⟨br, 3, none⟩ = some (.int .i64 t.left) := by rw [Dk.cell_of h1]; rfl
  have hlt := lt_of_block h1
  have hL0 := h4.1
  have hL1 := h4.2.1
  have HF := Lib.hid (Rd.copy_fin t w · · · · · · · · · · · · ⟨hL0, hL1⟩ h8)
  clear h1 h2 h3 h4 h5 h6 h7 h8 hne
  go_enter Try.func18, Try.ntmps18
  go_wp2_with fail
  go_region_held3 (fun wx => wx.cell? ⟨br, 0, none⟩ = some (.slice (some ⟨bl, 0, none⟩) t.L.length cl) ∧ wx.cell? ⟨br, 1, none⟩ = some (.slice (some ⟨ga, 0, none⟩) t.pend.length ca) ∧ wx.cell? ⟨br, 2, none⟩ = some (.slice (some ⟨gb, 0, none⟩) t.pend.length cb) ∧ wx.cell? ⟨br, 3, none⟩ = some (.int .i64 t.left) ∧ br < w.heap.size ∧ Below w.heap.size w wx) (first | (exact Rd.CS.alloc (by assumption) _) | (exact Rd.CS.below (by assumption) (by assumption)) | (exact ⟨c0, c1, c2, c3, hlt, (Below.refl _ _).drew⟩) | (exact ⟨c0, c1, c2, c3, hlt, Below.refl _ _⟩)) (first
    | (have x := q2; refine step_clone _ rfl (.tmp 15) (.tmp 19) 22 rfl 9 j0 _ 16 Try.underlying22 hj0 hy0 hy1 hy2 rfl _ rfl ⟨gb, 0, none⟩ t.pend.length cb (t.pend.map fun u => .string u.2) rfl (by simp) (fun j u hj => Rd.CS.get (by assumption) (n3.out j u hj)) hn (by simp only [maxLen]; omega) (by omega) ?_; intro g3 k3 w3 o3 b3
       have f3 := below_via (a := w2) (by first | exact Below.refl _ _ | exact (Below.refl _ _).alloc (Nat.le_refl _) _ | exact ((Below.refl _ _).alloc (Nat.le_refl _) _).alloc (by simp) _) b3
       have q3 : w2.heap.size ≤ g3 := Nat.le_trans (by first | exact Nat.le_refl _ | (simp; done) | (simp; omega)) (o3.lt g3 rfl).1
       have hb3 : Below w.heap.size w w3 := Rd.CS.via (by assumption) b3
       have b3' := b3
       clear b3
       dsimp only)
    | (have x := q1; refine step_clone _ rfl (.tmp 9) (.tmp 13) 52 rfl 3 i0 _ 8 Try.underlying52 hi0 hz0 hz1 hz2 rfl _ rfl ⟨ga, 0, none⟩ t.pend.length ca (t.pend.map fun u => .int .i64 u.1) rfl (by simp) (fun j u hj => Rd.CS.get (by assumption) (n2.out j u hj)) hn (by simp only [maxLen]; omega) (by omega) ?_; intro g2 k2 w2 o2 b2
       have f2 := below_via (a := w1) (by first | exact Below.refl _ _ | exact (Below.refl _ _).alloc (Nat.le_refl _) _ | exact ((Below.refl _ _).alloc (Nat.le_refl _) _).alloc (by simp) _) b2
       have q2 : w1.heap.size ≤ g2 := Nat.le_trans (by first | exact Nat.le_refl _ | (simp; done) | (simp; omega)) (o2.lt g2 rfl).1
       have b2' := b2
       clear b2
       dsimp only)
    | (refine step_clone _ rfl (.tmp 3) (.tmp 7) 22 rfl 9 j0 _ 16 Try.underlying22 hj0 hy0 hy1 hy2 rfl _ rfl ⟨bl, 0, none⟩ t.L.length cl (t.L.map .string) rfl (by simp) (fun j u hj => Rd.CS.get (by assumption) (n1.out j u hj)) hL0 (by simp only [maxLen]; omega) (by omega) ?_; intro g1 k1 w1 o1 b1; have q1 : w.heap.size ≤ g1 := Nat.le_trans (Rd.CS.size (by assumption)) (o1.lt g1 rfl).1; have b1' := b1; clear b1; dsimp only))
  all_goals
    go_wp2_with fail
    go_ret
    exact ⟨_, rfl, HF.out _ _ _ _ _ _ _ _ _ _ _ _ o1 q1 o2 q2 f2 o3 q3 f3 hb3 _ rfl⟩
end Go.Proofs.Ytienbgfmhllgmaa
