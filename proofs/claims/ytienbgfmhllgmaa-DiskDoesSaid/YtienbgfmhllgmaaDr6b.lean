/- The walk of stetref04's Copy: nothing pending. -/
import Derived.Test.YtienbgfmhllgmaaRows
import Derived.Test.YtienbgfmhllgmaaKit
import Derived.Test.YtienbgfmhllgmaaDk2
import Derived.Test.YtienbgfmhllgmaaDr2
import Derived.Test.YtienbgfmhllgmaaDr3
import Derived.Test.YtienbgfmhllgmaaDr4
import Derived.Test.YtienbgfmhllgmaaDr5
import Derived.Test.YtienbgfmhllgmaaDr6
namespace Go.Proofs.Ytienbgfmhllgmaa
open Go.Maps Go.RowKit

theorem step_clone_none {P : Program} (w : World) {ops : Array Oper} {o : Oper} {a : Act} {K : Act → World → Prop} {Q : Exit → Act → World → Prop} {E : Prop} (hgd : o.guard = none) (s x : Operand) (t : TypeId)
    (ho : o.op = .call { callee := .builtin .append, args := #[s, x], argTypes := #[t, t] })
    (e : TypeId) (i : TypeInfo) (ht : P.underlying t = some (.slice e)) (hi : P.info? e = some i) (hsize : i.size = 1) (a0 : Addr) (hs : a.eval s = .slice (some a0) 0 0)
    (A : Option Addr) (c : Nat) (hx : a.eval x = .slice A 0 c) (h : K (a.put o.dst (.slice (some a0) 0 0)) w) :
    if Region.wanted o (yielded ops a.tmps) = true then Oper.wp P o a w K Q else E := by
  have hw : Region.wanted o (yielded ops a.tmps) = true := by simp [Region.wanted, hgd]
  rw [if_pos hw]
  have hr := run_clone_none (P := P) w t o.type e i ht hi hsize a0 A c
  unfold Oper.wp execOp
  simp only [ho, resolve, invoke, builtin, Sem.run_bind, Sem.run_pure, Result.andThen_ok, List.map_toArray, List.map_cons, List.map_nil, hs, hx, hr]
  exact h

theorem heap_new_at (w : World) (o : Obj) (k : Nat) (hk : k = w.heap.size) : (w.alloc o).heap[k]? = some o := by subst hk; exact heap_alloc_new w o
theorem Rd.copy_fin0 (L0 : List ByteArray) (lf : Int) (w w1 v0 v' : World) (g1 c1 B1 x1 x2 bc : Nat) (hL : 0 < L0.length ∧ L0.length ≤ 4096) (hwf : (Lit.int .i64 lf).wf = true)
    (hv : v' = v0.alloc (Rd.blk (.slice (some ⟨g1, 0, none⟩) L0.length c1) (.slice (some ⟨x1, 0, none⟩) 0 0) (.slice (some ⟨x2, 0, none⟩) 0 0) lf)) (hbc : bc = v0.heap.size)
    (o1 : w1.ownsRow B1 9 1 (.slice (some ⟨g1, 0, none⟩) L0.length c1) L0.length (L0.map .string)) (q1 : w.heap.size ≤ g1) (hb1 : Below w.heap.size w w1) (hv0 : Below w1.heap.size w1 v0)
    (h1 : v0.heap[x1]? = some (.cells #[] 3 (0, 0))) (h2 : v0.heap[x2]? = some (.cells #[] 9 (0, 0))) (n1 : w.heap.size ≤ x1 ∧ w.heap.size ≤ x2 ∧ x1 ≠ x2 ∧ x1 ≠ g1 ∧ x2 ≠ g1) :
    ∃ G, Below w.heap.size w v' ∧ Rd.Of bc ⟨L0, [], lf⟩ v' G ∧ ∀ k ∈ G, w.heap.size ≤ k := by
  subst hv
  subst hbc
  have l1 := lt_of_block h1
  have l2 := lt_of_block h2
  have l3 := (o1.lt g1 rfl).2
  have s0 := hb1.size
  have s1 := hv0.size
  have own0 : ∀ (x : Nat) (e : TypeId), (v0.alloc (Rd.blk (.slice (some ⟨g1, 0, none⟩) L0.length c1) (.slice (some ⟨x1, 0, none⟩) 0 0) (.slice (some ⟨x2, 0, none⟩) 0 0) lf)).heap[x]? = some (.cells #[] e (0, 0)) → (v0.alloc (Rd.blk (.slice (some ⟨g1, 0, none⟩) L0.length c1) (.slice (some ⟨x1, 0, none⟩) 0 0) (.slice (some ⟨x2, 0, none⟩) 0 0) lf)).ownsRow 0 e 1 (.slice (some ⟨x, 0, none⟩) 0 0) 0 [] := fun x e h => ⟨rfl, .inr ⟨x, 0, #[], rfl, Nat.zero_le _, h, Nat.le_refl _, by simp, rfl, rfl⟩⟩
  have o13 := (own_below o1 hv0).alloc (Rd.blk (.slice (some ⟨g1, 0, none⟩) L0.length c1) (.slice (some ⟨x1, 0, none⟩) 0 0) (.slice (some ⟨x2, 0, none⟩) 0 0) lf)
  rcases o13.2 with ⟨e, _⟩ | ⟨g, cap, cur, e, _, hg, hnc, hcm, hcs, htk⟩
  · cases e
  · cases e
    obtain ⟨m1, m2, m3, m4, m5⟩ := n1
    refine ⟨_, (hb1.trans (hv0.mono s0)).alloc (by omega) _, ⟨g1, c1, cur, _, _, heap_alloc_new _ _, hg, fun j hj => ?_, ⟨hL.1, hL.2, hnc, hcm⟩, own0 _ _ ((Below.heap_alloc _ _ _ l1).trans h1), own0 _ _ ((Below.heap_alloc _ _ _ l2).trans h2), ⟨by omega, by simp [Value.ownBlock]; omega, by simp [Value.ownBlock]; omega, by simp [Value.ownBlock]; omega, by simp [Value.ownBlock]; omega, by simp [Value.ownBlock]; omega⟩, ⟨hwf, fun u hu => by simp at hu⟩, rfl⟩, fun k hk => ?_⟩
    · have := congrArg (fun l : List Value => l[j]?) htk
      simp only [Nat.mul_one] at this
      rw [List.getElem?_take, if_pos hj] at this
      simpa [hj] using this
    · simp [Value.ownBlock] at hk
      omega

set_option maxHeartbeats 4000000 in
theorem rCopy_none (br : Nat) (t : Rd.St) (F : List Nat) (w : World) (hd : Rd.Of br t w F) (hne : t.pend = []) :
    Calls Try.prog 18 #[.pointer (some ⟨br, 0, none⟩)] w fun e w' => ∃ bc, e = .returned (.pointer (some ⟨bc, 0, none⟩)) ∧ ∃ G, Below w.heap.size w w' ∧ Rd.Of bc t w' G ∧ ∀ k ∈ G, w.heap.size ≤ k := by
  obtain ⟨bl, cl, cur, a, b, h1, h2, h3, h4, h5, h6, h7, h8, rfl⟩ := hd
  obtain ⟨i0, hi0, hz0, hz1, hz2⟩ := info_parts intInfo2
  obtain ⟨j0, hj0, hy0, hy1, hy2⟩ := info_parts strInfo
  obtain ⟨Aa, ca, rfl⟩ := Rd.own_form h5
  obtain ⟨Ab, cb, rfl⟩ := Rd.own_form h6
  obtain ⟨L0, l0, lf⟩ := t
  simp only at hne
  subst hne
  simp only [List.length_nil] at *
  have n1 : Hid (∀ j u, (L0.map Value.string)[j]? = some u → w.cell? ((⟨bl, 0, none⟩ : Addr).add j) = some u) := fun j u hj => by
    rw [Addr.add_lit, Dk.cell_of h2]
    simp only [List.getElem?_map, Option.map_eq_some_iff] at hj
    obtain ⟨s, hs, rfl⟩ := hj
    obtain ⟨hj, rfl⟩ := List.getElem?_eq_some_iff.1 hs
    rw [Nat.zero_add]; exact h3 j hj
  have c0 : w.cell? ⟨br, 0, none⟩ = some (.slice (some ⟨bl, 0, none⟩) L0.length cl) := by rw [Dk.cell_of h1]; rfl
  have c1 : w.cell? ⟨br, 1, none⟩ = some (.slice Aa 0 ca) := by rw [Dk.cell_of h1]; rfl
  have c2 : w.cell? ⟨br, 2, none⟩ = some (.slice Ab 0 cb) := by rw [Dk.cell_of h1]; rfl
  have c3 : w.cell? ⟨br, 3, none⟩ = some (.int .i64 lf) := by rw [Dk.cell_of h1]; rfl
  have hlt := lt_of_block h1
  have hL0 := h4.1
  have hL1 := h4.2.1
  have H8 := Lib.hid h8.1
  clear h1 h2 h3 h4 h5 h6 h7 h8
  go_enter Try.func18, Try.ntmps18
  go_wp2_with fail
  go_region_held3 (fun wx => wx.cell? ⟨br, 0, none⟩ = some (.slice (some ⟨bl, 0, none⟩) L0.length cl) ∧ wx.cell? ⟨br, 1, none⟩ = some (.slice Aa 0 ca) ∧ wx.cell? ⟨br, 2, none⟩ = some (.slice Ab 0 cb) ∧ wx.cell? ⟨br, 3, none⟩ = some (.int .i64 lf) ∧ br < w.heap.size ∧ Below w.heap.size w wx) (first | assumption | (exact Rd.CS.alloc (by assumption) _) | (exact Rd.CS.below (by assumption) (by assumption)) | (exact ⟨c0, c1, c2, c3, hlt, (Below.refl _ _).drew⟩) | (exact ⟨c0, c1, c2, c3, hlt, Below.refl _ _⟩)) (first
    | (refine step_clone_none _ rfl (.tmp 15) (.tmp 19) 22 rfl 9 j0 Try.underlying22 hj0 hy1 _ rfl Ab cb rfl ?_; dsimp only)
    | (refine step_clone_none _ rfl (.tmp 9) (.tmp 13) 52 rfl 3 i0 Try.underlying52 hi0 hz1 _ rfl Aa ca rfl ?_; dsimp only)
    | (refine step_clone _ rfl (.tmp 3) (.tmp 7) 22 rfl 9 j0 _ 16 Try.underlying22 hj0 hy0 hy1 hy2 rfl _ rfl ⟨bl, 0, none⟩ L0.length cl (L0.map .string) rfl (by simp) (fun j u hj => Rd.CS.get (by assumption) (n1.out j u hj)) hL0 (by simp only [maxLen]; omega) (by omega) ?_; intro g1 k1 w1 o1 b1
       have q1 : w.heap.size ≤ g1 := Nat.le_trans (Rd.CS.size (by assumption)) (o1.lt g1 rfl).1
       have hb1 : Below w.heap.size w w1 := Rd.CS.via (by assumption) b1
       have b1' := b1
       clear b1
       dsimp only))
  all_goals
    go_wp2_with fail
    go_ret
    have q := o1.lt g1 rfl
    have s0 := hb1.size
    simp at q
    refine ⟨_, rfl, Rd.copy_fin0 L0 lf w w1 _ _ g1 k1 _ _ _ _ ⟨hL0, hL1⟩ H8.out rfl (by simp) o1 q1 hb1 (by first | exact Below.refl _ _ | exact (Below.refl _ _).alloc (Nat.le_refl _) _ | exact ((Below.refl _ _).alloc (Nat.le_refl _) _).alloc (by simp) _) ?_ ?_ (by omega)⟩
    all_goals repeat (first | (refine heap_new_at _ _ _ ?_; simp; done) | (refine (Below.heap_alloc _ _ _ ?_).trans ?_; focus (first | omega | (simp; omega) | (simp; done))) | (refine (b1'.block _ ?_).trans ?_; focus (first | omega | (simp; omega) | (simp; done))))
end Go.Proofs.Ytienbgfmhllgmaa
