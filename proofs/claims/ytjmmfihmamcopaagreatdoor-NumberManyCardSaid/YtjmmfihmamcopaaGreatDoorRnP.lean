/- The block of the reference's work, and the lists that it owns. · The reference's counters and its work: note, block, here, more. · The reference's work: say. · The reference's split: its pieces are those of strings.Split. · The reference's Find. · The reference's work: label. -/
import Derived.Test.YtjmmfihmamcopaaGreatDoorNbSay
import Derived.Test.YtjmmfihmamcopaaGreatDoorOneB
import Derived.Test.YtjmmfihmamcopaaGreatDoorNbH
namespace Go.Proofs.YtjmmfihmamcopaaGreatDoor
open Go.RowKit Tx Nb

def rdesc (s : St) (v : Nat → Value) : Nat → Desc
  | 0 => ⟨89, 2, s.blocks.length, blF v 12 s.blocks⟩
  | 1 => ⟨85, 3, s.labels.length, s.labels.flatMap labF⟩
  | 2 => ⟨86, 4, s.heads.length, s.heads.flatMap hdF⟩
  | 3 => ⟨9, 1, s.cites.length, s.cites.flatMap txF⟩
  | 4 => ⟨9, 1, s.bibs.length, s.bibs.flatMap txF⟩
  | 5 => ⟨3, 1, s.la.length, s.la.flatMap inF⟩
  | 6 => ⟨3, 1, s.ha.length, s.ha.flatMap inF⟩
  | 7 => ⟨3, 1, s.ia.length, s.ia.flatMap inF⟩
  | 8 => ⟨9, 1, s.index.length, s.index.flatMap txF⟩
  | 9 => ⟨92, 2, s.notes.length, s.notes.flatMap ntF⟩
  | 10 => ⟨9, 1, s.own.length, (s.own.map Prod.fst).flatMap txF⟩
  | 11 => ⟨3, 1, s.own.length, (s.own.map fun p => (p.2 : Int)).flatMap inF⟩
  | j + 12 => ⟨9, 1, ((s.blocks[j]?.getD (0, [])).2).length, ((s.blocks[j]?.getD (0, [])).2).flatMap txF⟩
/-- What the reference's work was given. -/
structure RCst where
  oL : Value
  oH : Value
  oC : Value
  oB : Value
  res : List (Nat × Obj)
/-- The blocks that no list may lie in: the work's, and those that are set apart. -/
def RCst.X (k : RCst) (wb : Nat) : List Nat := wb :: k.res.map Prod.fst
theorem RCst.mem_wb (k : RCst) (wb : Nat) : wb ∈ k.X wb := by simp [RCst.X]
theorem RCst.mem_res (k : RCst) (wb : Nat) {p : Nat × Obj} (h : p ∈ k.res) : p.1 ∈ k.X wb := by
  unfold RCst.X
  exact List.mem_cons_of_mem _ (List.mem_map_of_mem h)
/-- Where a list's slice lies. -/
def rpos : Nat → Nat
  | 10 => 19
  | 11 => 20
  | i => i
def rcells (v : Nat → Value) (k : RCst) (c : Sc) : List Value :=
  [v 0, v 1, v 2, v 3, v 4, v 5, v 6, v 7, v 8, v 9, k.oL, k.oH, k.oC, k.oB, .bool c.flows, .bool c.op, .int .i64 c.words, .int .i64 c.sec, .int .i64 c.sub, v 10, v 11, vs c.last]
def RBlk (v : Nat → Value) (k : RCst) (c : Sc) : Obj := .cells (rcells v k c).toArray 82 (0, 0)
theorem rcells_set (v : Nat → Value) (k : RCst) (c : Sc) {i : Nat} (hi : i < 12) (v' : Value) : (rcells v k c).set (rpos i) v' = rcells (upd v i v') k c := by
  rcases i with _ | _ | _ | _ | _ | _ | _ | _ | _ | _ | _ | _ | i <;> first | rfl | omega
theorem rcells_at (v : Nat → Value) (k : RCst) (c : Sc) {i : Nat} (hi : i < 12) : (rcells v k c)[rpos i]? = some (v i) := by
  rcases i with _ | _ | _ | _ | _ | _ | _ | _ | _ | _ | _ | _ | i <;> first | rfl | omega
theorem rcells_upd (v : Nat → Value) (k : RCst) (c : Sc) {i : Nat} (hi : 12 ≤ i) (v' : Value) : rcells (upd v i v') k c = rcells v k c := by
  have : ∀ j, j < 12 → upd v i v' j = v j := fun j hj => upd_ne _ _ (by omega)
  simp only [rcells, this 0 (by omega), this 1 (by omega), this 2 (by omega), this 3 (by omega), this 4 (by omega), this 5 (by omega), this 6 (by omega), this 7 (by omega), this 8 (by omega), this 9 (by omega), this 10 (by omega), this 11 (by omega)]
structure Rk (B : Nat) (w0 w : World) (wb : Nat) (k : RCst) (v : Nat → Value) (N : Nat) (D : Nat → Desc) (c : Sc) : Prop where
  hB : B ≤ w.heap.size
  bel : Below B w0 w
  wbB : B ≤ wb
  n12 : 12 ≤ N
  blk : w.heap[wb]? = some (RBlk v k c)
  ow : Ow B w (k.X wb) v N D
  res : ∀ p ∈ k.res, w.heap[p.1]? = some p.2 ∧ p.1 ≠ wb
section
variable {B N wb : Nat} {w0 w w' : World} {k : RCst} {v : Nat → Value} {D : Nat → Desc} {c : Sc}
theorem Rk.lt (h : Rk B w0 w wb k v N D c) : ∀ j ∈ k.X wb, j < w.heap.size := fun j hj => by
  simp only [RCst.X, List.mem_cons, List.mem_map] at hj
  rcases hj with rfl | ⟨p, hp, rfl⟩
  · exact lt_of_block h.blk
  · exact lt_of_block (h.res p hp).1
theorem Rk.res_to (h : Rk B w0 w wb k v N D c) (hk : ∀ p ∈ k.res, w'.heap[p.1]? = w.heap[p.1]?) : ∀ p ∈ k.res, w'.heap[p.1]? = some p.2 ∧ p.1 ≠ wb := fun p hp => ⟨(hk p hp).trans (h.res p hp).1, (h.res p hp).2⟩
theorem Rk.below (h : Rk B w0 w wb k v N D c) (hb : Below w.heap.size w w') : Rk B w0 w' wb k v N D c :=
  ⟨Nat.le_trans h.hB hb.size, h.bel.trans (hb.mono h.hB), h.wbB, h.n12, (hb.block wb (h.lt wb (k.mem_wb wb))).trans h.blk, h.ow.same (fun j hj _ => hb.block j hj), h.res_to (fun p hp => hb.block p.1 (h.lt _ (k.mem_res wb hp)))⟩
theorem Rk.cell (h : Rk B w0 w wb k v N D c) (i : Nat) : w.cell? ⟨wb, i, none⟩ = (rcells v k c)[i]? := by rw [Lib.cell_of_heap h.blk]; simp
theorem Rk.frozen (h : Rk B w0 w wb k v N D c) (i : Nat) : w.frozen? ⟨wb, i, none⟩ = false := Lib.frozen_of_heap h.blk i
/-- One of the plain cells is set. -/
theorem Rk.set (h : Rk B w0 w wb k v N D c) (i : Nat) (u : Value) (c' : Sc) (hu : (rcells v k c).set i u = rcells v k c') : Rk B w0 (w.setCell ⟨wb, i, none⟩ u) wb k v N D c' := by
  have hoth : ∀ j, j ≠ wb → (w.setCell ⟨wb, i, none⟩ u).heap[j]? = w.heap[j]? := fun j hj => Below.heap_setCell _ _ _ _ (fun e => hj (by simpa using e))
  refine ⟨by rw [World.size_setCell]; exact h.hB, h.bel.setCell (p := ⟨wb, i, none⟩) h.wbB u, h.wbB, h.n12, ?_, h.ow.same (fun j _ hj => hoth j (fun e => hj (by rw [e]; exact k.mem_wb wb))), h.res_to (fun p hp => hoth p.1 (h.res p hp).2)⟩
  rw [cells_set h.blk, List.setIfInBounds_toArray, hu]
  rfl
/-- An append to slice i, and its store. -/
theorem Rk.app (h : Rk B w0 w wb k v N D c) {i p : Nat} (hi : i < 12) (hp : rpos i = p) {v' : Value} {d' : Desc} (ho : d'.Is B w' v') (hg : w.grownBy w' (v i).ownBlock) (hb : ∀ j, v'.ownBlock = some j → (v i).ownBlock = some j ∨ w.heap.size ≤ j) :
    Rk B w0 (w'.setCell ⟨wb, p, none⟩ v') wb k (upd v i v') N (upd D i d') c ∧ w'.heap[wb]? = some (RBlk v k c) := by
  subst hp
  have hN := h.n12
  have hwl := h.lt wb (k.mem_wb wb)
  have hwb : w'.heap[wb]? = some (RBlk v k c) := (hg.block wb hwl (fun e => h.ow.out i (by omega) wb e.symm (k.mem_wb wb))).trans h.blk
  have hoth : ∀ j, j ≠ wb → (w'.setCell ⟨wb, rpos i, none⟩ v').heap[j]? = w'.heap[j]? := fun j hj => Below.heap_setCell _ _ _ _ (fun e => hj (by simpa using e))
  have hbel : Below B w0 w' := h.bel.grown hg h.hB (fun j hj => (h.ow.lt (i := i) (by omega) j hj).1)
  refine ⟨⟨by rw [World.size_setCell]; exact Nat.le_trans h.hB hg.size, hbel.setCell (p := ⟨wb, rpos i, none⟩) h.wbB v', h.wbB, h.n12, ?_, ?_, h.res_to (fun q hq => (hoth q.1 (h.res q hq).2).trans (hg.block q.1 (h.lt _ (k.mem_res wb hq)) (fun e => h.ow.out i (by omega) q.1 e.symm (k.mem_res wb hq))))⟩, hwb⟩
  · rw [cells_set hwb, List.setIfInBounds_toArray, rcells_set v k c hi v']
    rfl
  · refine h.ow.turn (by omega) h.lt (fun j hj h1 h2 => ?_) ?_ hb
    · rw [hoth j (fun e => h2 (by rw [e]; exact k.mem_wb wb))]
      exact hg.block j hj (fun e => h1 e.symm)
    · refine own_heap ho (fun j hj => hoth j ?_)
      rintro rfl
      rcases hb _ hj with h1 | h1
      · exact h.ow.out i (by omega) _ h1 (k.mem_wb _)
      · omega
theorem Rk.after (h : Rk B w0 w wb k v N D c) {i p : Nat} (hi : i < 12) (hp : rpos i = p) {v' : Value} {d' : Desc} (ho : d'.Is B w' v') (hg : w.grownBy w' (v i).ownBlock) (hb : ∀ j, v'.ownBlock = some j → (v i).ownBlock = some j ∨ w.heap.size ≤ j) :
    Hid (Rk B w0 (w'.setCell ⟨wb, p, none⟩ v') wb k (upd v i v') N (upd D i d') c) ∧ (∃ A n, v' = .slice A d'.n n) ∧ w'.cell? ⟨wb, p, none⟩ = some (v i) ∧ w'.frozen? ⟨wb, p, none⟩ = false := by
  obtain ⟨h1, h2⟩ := h.app hi hp ho hg hb
  refine ⟨Lib.hid h1, own_slice ho, ?_, Lib.frozen_of_heap h2 p⟩
  rw [Lib.cell_of_heap h2, ← hp]
  simpa using rcells_at v k c hi
/-- A list's store in place. -/
theorem Rk.inplace (h : Rk B w0 w wb k v N D c) {i : Nat} (hi : i < N) {g m cp : Nat} (hv : v i = .slice (some ⟨g, 0, none⟩) m cp) (q : Nat) (u : Value) (hn : (D i).n = m) :
    Rk B w0 (w.setCell ⟨g, q, none⟩ u) wb k v N (upd D i ⟨(D i).e, (D i).sz, (D i).n, (D i).ys.set q u⟩) c := by
  have hg0 : (v i).ownBlock = some g := by rw [hv]; rfl
  have hgl := h.ow.lt hi g hg0
  have hgw : ∀ j ∈ k.X wb, g ≠ j := fun j hj e => h.ow.out i hi g hg0 (e ▸ hj)
  have hoth : ∀ j, j ≠ g → (w.setCell ⟨g, q, none⟩ u).heap[j]? = w.heap[j]? := fun j hj => Below.heap_setCell _ _ _ _ (fun e => hj (by simpa using e))
  have ho0 : w.ownsRow B (D i).e (D i).sz (.slice (some ⟨g, 0, none⟩) m cp) m (D i).ys := by
    have := h.ow.own i hi
    unfold Desc.Is at this
    rw [hn, hv] at this
    exact this
  obtain ⟨ho1, _⟩ := ho0.stored q u
  have t2 := h.ow.turn (i := i) (w' := w.setCell ⟨g, q, none⟩ u) hi h.lt (fun j _ h2 _ => hoth j (fun e => h2 (by rw [hg0, e])))
    (v' := .slice (some ⟨g, 0, none⟩) m cp) (d' := ⟨(D i).e, (D i).sz, (D i).n, (D i).ys.set q u⟩) (by unfold Desc.Is; simp only; rw [hn]; exact ho1) (fun j hj => .inl (by rw [hv]; exact hj))
  have hsame : upd v i (.slice (some ⟨g, 0, none⟩) m cp) = v := by
    funext j
    by_cases hj : j = i
    · subst hj; rw [upd_at, hv]
    · rw [upd_ne _ _ hj]
  rw [hsame] at t2
  exact ⟨by rw [World.size_setCell]; exact h.hB, h.bel.setCell (p := ⟨g, q, none⟩) hgl.1 u, h.wbB, h.n12, (hoth _ (Ne.symm (hgw _ (k.mem_wb wb)))).trans h.blk, t2, h.res_to (fun p hp => hoth p.1 (Ne.symm (hgw _ (k.mem_res wb hp))))⟩
theorem Rk.re {D' : Nat → Desc} (h : Rk B w0 w wb k v N D c) (hD : ∀ i, i < N → D i = D' i) : Rk B w0 w wb k v N D' c :=
  ⟨h.hB, h.bel, h.wbB, h.n12, h.blk, h.ow.congr (fun _ _ => rfl) (fun i hi => (hD i hi).symm), h.res⟩
/-- One more list, new. -/
theorem Rk.grow (h : Rk B w0 w wb k v N D c) (hb : Below w.heap.size w w') {vw : Value} {d : Desc} (ho : d.Is w.heap.size w' vw) : Rk B w0 w' wb k (upd v N vw) (N + 1) (upd D N d) c := by
  have h2 := h.below hb
  have ho' : w'.ownsRow w.heap.size d.e d.sz vw d.n d.ys := ho
  have hf : ∀ j, vw.ownBlock = some j → w.heap.size ≤ j := fun j hj => (World.ownsRow.lt ho' j hj).1
  refine ⟨h2.hB, h2.bel, h2.wbB, by have := h.n12; omega, ?_, ?_, h2.res⟩
  · rw [h2.blk]
    unfold RBlk
    rw [rcells_upd v k c h.n12]
  · refine h2.ow.push (⟨ho'.1, ho'.2.imp id fun ⟨g, cap, cur, h1, h2, h3⟩ => ⟨g, cap, cur, h1, Nat.le_trans h.hB h2, h3⟩⟩) (fun j hj => ⟨fun hx => ?_, fun i hi hji => ?_⟩)
    · have := h.lt j hx
      have := hf j hj
      omega
    · have := (h.ow.lt hi j hji).2
      have := hf j hj
      omega
end
/-- Block wb is a reference's work in the state s. -/
def Ri (B : Nat) (w0 w : World) (wb : Nat) (k : RCst) (s : St) : Prop := ∃ v, Rk B w0 w wb k v (12 + s.blocks.length) (rdesc s v) s.c
theorem Ri.below {B wb : Nat} {w0 w w' : World} {k : RCst} {s : St} (h : Ri B w0 w wb k s) (hb : Below w.heap.size w w') : Ri B w0 w' wb k s := by
  obtain ⟨v, h⟩ := h
  exact ⟨v, h.below hb⟩
theorem Rk.is {B wb : Nat} {w0 w : World} {k : RCst} {v : Nat → Value} {N : Nat} {D : Nat → Desc} {s : St} (h : Rk B w0 w wb k v N D s.c) (hN : N = 12 + s.blocks.length) (hD : ∀ i, i < N → D i = rdesc s v i) : Ri B w0 w wb k s := by
  subst hN
  exact ⟨v, h.re hD⟩
theorem twelve_cases {i : Nat} (h : i < 12) : i = 0 ∨ i = 1 ∨ i = 2 ∨ i = 3 ∨ i = 4 ∨ i = 5 ∨ i = 6 ∨ i = 7 ∨ i = 8 ∨ i = 9 ∨ i = 10 ∨ i = 11 := by omega
theorem rdesc_v (s : St) (u u' : Nat → Value) (j : Nat) (hj : 0 < j) : rdesc s u j = rdesc s u' j := by
  rcases j with _ | _ | _ | _ | _ | _ | _ | _ | _ | _ | _ | _ | j <;> first | rfl | omega
/-- Behind an append to a list other than the blocks. -/
theorem rdesc_app {s s' : St} {v : Nat → Value} {i : Nat} {v' : Value} (h0 : 0 < i ∧ i < 12) (hb : s'.blocks = s.blocks) (ho : ∀ j, j ≠ i → 0 < j → j < 12 → rdesc s' v j = rdesc s v j) : ∀ j, upd (rdesc s v) i (rdesc s' v i) j = rdesc s' (upd v i v') j := by
  intro j
  have hbl : rdesc s' (upd v i v') 0 = rdesc s v 0 := by
    simp only [rdesc, hb]
    rw [blF_congr s.blocks 12 (fun l h1 _ => upd_ne v v' (by omega))]
  by_cases hji : j = i
  · subst hji
    rw [upd_at]
    exact rdesc_v s' v _ j h0.1
  · rw [upd_ne _ _ hji]
    by_cases hj0 : j = 0
    · subst hj0
      exact hbl.symm
    · rw [rdesc_v s' (upd v i v') v j (by omega)]
      by_cases hj12 : j < 12
      · exact (ho j hji (by omega) hj12).symm
      · obtain ⟨m, rfl⟩ : ∃ m, j = m + 12 := ⟨j - 12, by omega⟩
        simp only [rdesc, hb]
section
variable {B wb : Nat} {w0 w : World} {k : RCst} {s : St}
/-- An append to a list other than the blocks, and what its store leaves. -/
theorem Rk.push {w' : World} {v : Nat → Value} {s' : St} (h : Rk B w0 w wb k v (12 + s.blocks.length) (rdesc s v) s.c) (i : Nat) {p : Nat} (h0 : 0 < i ∧ i < 12) (hp : rpos i = p) (hb : s'.blocks = s.blocks) (hc : s'.c = s.c) (ho : ∀ j, j ≠ i → 0 < j → j < 12 → rdesc s' v j = rdesc s v j)
    {v' : Value} (h1 : (rdesc s' v i).Is B w' v') (h2 : w.grownBy w' (v i).ownBlock) (h3 : ∀ j, v'.ownBlock = some j → (v i).ownBlock = some j ∨ w.heap.size ≤ j) :
    (∃ A c, v' = .slice A (rdesc s' v i).n c) ∧ (∀ j, w'.cell? ⟨wb, j, none⟩ = (rcells v k s.c)[j]?) ∧ (∀ j, w'.frozen? ⟨wb, j, none⟩ = false) ∧ Ri B w0 (w'.setCell ⟨wb, p, none⟩ v') wb k s' := by
  obtain ⟨h4, h5⟩ := h.app h0.2 hp h1 h2 h3
  refine ⟨own_slice h1, fun j => by rw [Lib.cell_of_heap h5]; simp, fun j => Lib.frozen_of_heap h5 j, ?_⟩
  rw [← hc] at h4
  exact h4.is (by rw [hb]) (fun j _ => rdesc_app h0 hb ho j)
theorem Ri.sc {c' : Sc} {i : Nat} {u : Value} (h : Ri B w0 w wb k s) (hu : ∀ v, (rcells v k s.c).set i u = rcells v k c') : Ri B w0 (w.setCell ⟨wb, i, none⟩ u) wb k { s with c := c' } := by
  obtain ⟨v, hw⟩ := h
  exact ⟨v, hw.set i u c' (hu v)⟩
theorem Ri.flows (h : Ri B w0 w wb k s) (b : Bool) : Ri B w0 (w.setCell ⟨wb, 14, none⟩ (.bool b)) wb k { s with c := { s.c with flows := b } } := h.sc fun _ => rfl
theorem Ri.op (h : Ri B w0 w wb k s) (b : Bool) : Ri B w0 (w.setCell ⟨wb, 15, none⟩ (.bool b)) wb k { s with c := { s.c with op := b } } := h.sc fun _ => rfl
theorem Ri.words (h : Ri B w0 w wb k s) (n : Nat) : Ri B w0 (w.setCell ⟨wb, 16, none⟩ (.int .i64 n)) wb k { s with c := { s.c with words := n } } := h.sc fun _ => rfl
theorem Ri.sec (h : Ri B w0 w wb k s) (n : Nat) : Ri B w0 (w.setCell ⟨wb, 17, none⟩ (.int .i64 n)) wb k { s with c := { s.c with sec := n } } := h.sc fun _ => rfl
theorem Ri.sub (h : Ri B w0 w wb k s) (n : Nat) : Ri B w0 (w.setCell ⟨wb, 18, none⟩ (.int .i64 n)) wb k { s with c := { s.c with sub := n } } := h.sc fun _ => rfl
theorem Ri.last (h : Ri B w0 w wb k s) (t : Bs) : Ri B w0 (w.setCell ⟨wb, 21, none⟩ (vs t)) wb k { s with c := { s.c with last := t } } := h.sc fun _ => rfl
/-- The plain cells. -/
theorem Ri.cells (h : Ri B w0 w wb k s) : (w.cell? ⟨wb, 14, none⟩ = some (.bool s.c.flows) ∧ w.cell? ⟨wb, 15, none⟩ = some (.bool s.c.op) ∧ w.cell? ⟨wb, 16, none⟩ = some (.int .i64 s.c.words) ∧ w.cell? ⟨wb, 17, none⟩ = some (.int .i64 s.c.sec) ∧ w.cell? ⟨wb, 18, none⟩ = some (.int .i64 s.c.sub) ∧ w.cell? ⟨wb, 21, none⟩ = some (vs s.c.last)) ∧ ∀ i, w.frozen? ⟨wb, i, none⟩ = false := by
  obtain ⟨v, hw⟩ := h
  exact ⟨⟨hw.cell 14, hw.cell 15, hw.cell 16, hw.cell 17, hw.cell 18, hw.cell 21⟩, hw.frozen⟩
theorem Ri.env (h : Ri B w0 w wb k s) : w.cell? ⟨wb, 10, none⟩ = some k.oL ∧ w.cell? ⟨wb, 11, none⟩ = some k.oH ∧ w.cell? ⟨wb, 12, none⟩ = some k.oC ∧ w.cell? ⟨wb, 13, none⟩ = some k.oB := by
  obtain ⟨v, hw⟩ := h
  exact ⟨hw.cell 10, hw.cell 11, hw.cell 12, hw.cell 13⟩
theorem Ri.res (h : Ri B w0 w wb k s) {p : Nat × Obj} (hp : p ∈ k.res) : w.heap[p.1]? = some p.2 := by
  obtain ⟨v, hw⟩ := h
  exact (hw.res p hp).1
theorem Ri.keep (h : Ri B w0 w wb k s) {w' : World} (hb : Below w.heap.size w w') (b : Nat) (o : Obj) (hn : w.heap.size ≤ b) (ho : w'.heap[b]? = some o) : Ri B w0 w' wb { k with res := (b, o) :: k.res } s := by
  obtain ⟨v, hw⟩ := h
  have h2 := hw.below hb
  have hwl := hw.lt wb (k.mem_wb wb)
  refine ⟨v, h2.hB, h2.bel, h2.wbB, h2.n12, h2.blk, ⟨h2.ow.own, h2.ow.dis, fun i hi j hj hx => ?_⟩, fun p hp => ?_⟩
  · have := (hw.ow.lt hi j hj).2
    simp only [RCst.X, List.map_cons, List.mem_cons] at hx
    rcases hx with rfl | rfl | hx
    · exact h2.ow.out i hi _ hj (k.mem_wb _)
    · omega
    · exact h2.ow.out i hi _ hj (by unfold RCst.X; exact List.mem_cons_of_mem _ hx)
  · rcases List.mem_cons.1 hp with rfl | hp
    · exact ⟨ho, by simp only; omega⟩
    · exact h2.res p hp
theorem Ri.free {R : List (Nat × Obj)} (h : Ri B w0 w wb { k with res := R ++ k.res } s) : Ri B w0 w wb k s := by
  obtain ⟨v, h2⟩ := h
  refine ⟨v, h2.hB, h2.bel, h2.wbB, h2.n12, h2.blk, ⟨h2.ow.own, h2.ow.dis, fun i hi j hj hx => h2.ow.out i hi j hj ?_⟩, fun p hp => h2.res p (List.mem_append_right _ hp)⟩
  simp only [RCst.X, List.map_append, List.mem_cons, List.mem_append] at hx ⊢
  rcases hx with hx | hx
  · exact .inl hx
  · exact .inr (.inr hx)
theorem Ri.bel (h : Ri B w0 w wb k s) : Below B w0 w := by
  obtain ⟨v, hw⟩ := h
  exact hw.bel
end
end Go.Proofs.YtjmmfihmamcopaaGreatDoor
namespace Go.Proofs.YtjmmfihmamcopaaGreatDoor
open Go.RowKit Go.Lib Go.Sort Tx Nb

theorem dig_len10 : ∀ (n : Nat), n ≤ 1000000000 → (Lib.decDigits n).length ≤ 10 := by
  have : ∀ k m : Nat, m < 10 ^ (k + 1) → (Lib.decDigits m).length ≤ k + 1 := by
    intro k
    induction k with
    | zero => intro m hm; rw [Lib.decDigits, dif_pos (by omega)]; simp
    | succ k ih =>
      intro m hm
      by_cases h : m < 10
      · rw [Lib.decDigits, dif_pos h]; simp
      · rw [Lib.decDigits, dif_neg h]
        have := ih (m / 10) (by rw [Nat.pow_succ] at hm; omega)
        simp
        omega
  exact fun n hn => this 9 n (by omega)
theorem ofNat_int (n : Nat) (h : n < 256) : ((UInt8.ofNat n).toNat : Int) = (n : Int) := by
  have : (UInt8.ofNat n).toNat = n := by simp; omega
  rw [this]
set_option maxHeartbeats 2000000 in
set_option maxRecDepth 20000 in
theorem digits_any : ∀ (n : Nat) (w : World), n ≤ 1000000000 →
    Calls Tryz.prog 45 #[.int .i64 n] w fun e w' => e = .returned (vs (Lib.decDigits n)) ∧ Below w.heap.size w w' := by
  intro n
  induction n using Nat.strongRecOn with
  | _ n ih =>
    intro w hn
    have hm : Int.tmod (n : Int) 10 = ((n % 10 : Nat) : Int) := by rw [Int.tmod_eq_emod_of_nonneg (by omega)]; omega
    have hdv : Int.tdiv (n : Int) 10 = ((n / 10 : Nat) : Int) := by rw [Int.tdiv_eq_ediv_of_nonneg (by omega)]; omega
    have hob := one_byte w _ rfl (48 + ((n % 10 : Nat) : Int)) (UInt8.ofNat (48 + n % 10)) (by rw [ofNat_int _ (by omega)]; omega)
    have hr1 : (n % 10 : Nat) < 10 := Nat.mod_lt _ (by omega)
    have hr2 : (n : Int) % 10 = ((n % 10 : Nat) : Int) := by omega
    have hr3 : (n : Int) / 10 = ((n / 10 : Nat) : Int) := by omega
    by_cases h : n < 10
    · have h' : (n : Int) < 10 := by omega
      have HD : Hid (Lib.decDigits n = [UInt8.ofNat (48 + n % 10)]) := Lib.hid (by rw [Lib.decDigits, dif_pos h, Nat.mod_eq_of_lt h])
      clear ih hdv hr3
      generalize UInt8.ofNat (48 + n % 10) = c at *
      generalize n % 10 = r at *
      go_enter Tryz.func45, Tryz.ntmps45
      go_wp2_with fail
      go_ret
      exact ⟨by rw [HD.out]; rfl, (Below.refl _ _).alloc (Nat.le_refl _) _⟩
    · have h' : (10 : Int) ≤ (n : Int) := by omega
      have HD : Hid (Lib.decDigits n = Lib.decDigits (n / 10) ++ [UInt8.ofNat (48 + n % 10)]) := Lib.hid (by rw [Lib.decDigits, dif_neg h])
      have HI := Lib.hid (ih (n / 10) (by omega))
      have hl := dig_len10 (n / 10) (by omega)
      have hle : n / 10 ≤ 1000000000 := by omega
      clear ih
      generalize UInt8.ofNat (48 + n % 10) = c at *
      generalize n % 10 = r at *
      generalize n / 10 = q at *
      have hl2 : (bs (Lib.decDigits q)).size ≤ 10 := by rw [bs_size]; exact hl
      have HW : Hid (bs (Lib.decDigits n) = bs (Lib.decDigits q) ++ bs [c]) := Lib.hid (by rw [HD.out, bs_append])
      have hl3 : (bs [c]).size = 1 := by rw [bs_size]; rfl
      go_enter Tryz.func45, Tryz.ntmps45
      go_wp2_with fail
      refine (HI.out _ hle).mono ?_
      rintro e w1 ⟨rfl, hb⟩
      go_wp2_with fail
      go_ret
      exact ⟨by show _ = Ending.returned (.string (bs (Lib.decDigits n))); rw [HW.out]; rfl, below_via ((Below.refl _ _).alloc (Nat.le_refl _) _) hb⟩
theorem dig_nat (n : Nat) (hn : n ≤ 999999) : dig (n : Int) = Lib.decDigits n := by unfold dig; rw [show (min (max (n : Int) 0) 999999).toNat = n by omega]
/-- The digits of a counter. -/
theorem rDig_any (n : Nat) (hn : n ≤ 999999) (w : World) : Calls Tryz.prog 45 #[.int .i64 n] w fun e w' => e = .returned (vs (dig (n : Int))) ∧ Below w.heap.size w w' := by
  rw [dig_nat n hn]
  exact digits_any n w (by omega)
theorem rCut_any (n : Int) (w : World) : Calls Tryz.prog 63 #[.int .i64 n] w fun e w' => e = .returned (.int .i64 (min (max n 0) 999999)) ∧ w' = w := by
  by_cases h1 : n < 0
  · have HE : Hid (min (max n 0) 999999 = 0) := Lib.hid (by omega)
    go_enter Tryz.func63, Tryz.ntmps63
    go_wp2_with fail
    go_ret
    exact ⟨by rw [HE.out]; rfl, rfl⟩
  · by_cases h2 : 999999 < n
    · have HE : Hid (min (max n 0) 999999 = 999999) := Lib.hid (by omega)
      go_enter Tryz.func63, Tryz.ntmps63
      go_wp2_with fail
      go_ret
      exact ⟨by rw [HE.out]; rfl, rfl⟩
    · have HE : Hid (min (max n 0) 999999 = n) := Lib.hid (by omega)
      go_enter Tryz.func63, Tryz.ntmps63
      go_wp2_with fail
      go_ret
      exact ⟨by rw [HE.out]; rfl, rfl⟩
theorem rAdd_any (n : Nat) (hn : n ≤ 999998) (w : World) : Calls Tryz.prog 72 #[.int .i64 n, .int .i64 1] w fun e w' => e = .returned (.tuple #[.int .i64 ((n + 1 : Nat) : Int), .bool false]) ∧ w' = w := by
  have h1 : min (max (n : Int) 0) 999999 = n := by omega
  have h2 : min (max ((n + 1 : Nat) : Int) 0) 999999 = ((n + 1 : Nat) : Int) := by omega
  have h3 : min (max (1 : Int) 0) 999999 = 1 := by omega
  have HC := Lib.hid (rCut_any (n : Int) w)
  have HD := Lib.hid (rCut_any 1 w)
  have HE := Lib.hid (rCut_any ((n + 1 : Nat) : Int) w)
  rw [h1] at HC
  rw [h3] at HD
  rw [h2] at HE
  have x1 : IntKind.i64.wrap ((n : Int) + 1) = ((n + 1 : Nat) : Int) := by rw [IntWalk.i64_in _ (by omega)]; omega
  obtain ⟨m, hm⟩ : ∃ m, m = n + 1 := ⟨_, rfl⟩
  rw [← hm] at x1 HE ⊢
  have hm2 : m ≤ 999999 := by omega
  have hm3 : ¬ (999999 < (m : Int)) := by omega
  clear h1 h2 h3 hm
  go_enter Tryz.func72, Tryz.ntmps72
  go_wp2_with fail
  refine HC.out.mono ?_
  rintro e w1 ⟨rfl, rfl⟩
  go_wp2_with fail
  refine HD.out.mono ?_
  rintro e w1 ⟨rfl, rfl⟩
  go_wp2_with fail
  refine HE.out.mono ?_
  rintro e w1 ⟨rfl, rfl⟩
  go_wp2_with fail
  go_ret2
  refine ⟨?_, rfl⟩
  show Ending.returned (.tuple #[.int .i64 m, .bool (decide (999999 < (m : Int)))]) = _
  rw [show decide (999999 < (m : Int)) = false by simp; omega]
theorem rbInfo : (Tryz.prog.info? 89).map (fun i => (i.zero, i.size, i.bytes)) = some (some (.agg #[.int .i64 0, .slice none 0 0]), 2, 32) := by kernel_rfl
/-- A reference's work in the state s, and beside it words ws in the slice vw. -/
def RiW (B : Nat) (w0 w : World) (wb : Nat) (k : RCst) (s : St) (vw : Value) (ws : List Bs) : Prop :=
  ∃ v, Rk B w0 w wb k (upd v (12 + s.blocks.length) vw) (12 + s.blocks.length + 1) (upd (rdesc s v) (12 + s.blocks.length) ⟨9, 1, ws.length, ws.flatMap txF⟩) s.c
theorem Ri.with {B wb : Nat} {w0 w w' : World} {k : RCst} {s : St} (h : Ri B w0 w wb k s) (hb : Below w.heap.size w w') {vw : Value} {ws : List Bs} (ho : OwnC 9 1 txF w.heap.size w' vw ws) : RiW B w0 w' wb k s vw ws := by
  obtain ⟨v, h⟩ := h
  exact ⟨v, h.grow hb (d := ⟨9, 1, ws.length, ws.flatMap txF⟩) ho⟩
section
variable {B wb : Nat} {w0 w : World} {k : RCst} {s : St}
set_option maxRecDepth 100000 in
set_option maxHeartbeats 4000000 in
theorem rnote_rk {v : Nat → Value} (hw : Rk B w0 w wb k v (12 + s.blocks.length) (rdesc s v) s.c) (e : Int) (t : Bs) (hn : s.notes.length < 1000000) :
    Calls Tryz.prog 41 #[.pointer (some ⟨wb, 0, none⟩), .int .i64 e, vs t] w fun e' w' => e' = .returned (.tuple #[]) ∧ ∃ v', Rk B w0 w' wb k v' (12 + s.blocks.length) (rdesc (Nb.note s e t) v') s.c ∧ ∀ j, j ≠ 9 → v' j = v j := by
  obtain ⟨i0, hi0, hz0, hz1, hz2⟩ := info_parts ntInfo
  have y9 : w.cell? ⟨wb, 9, none⟩ = some (v 9) := hw.cell 9
  have HW := Lib.hid hw
  have HO := Lib.hid (show w.ownsRow B 92 2 (v 9) s.notes.length (s.notes.flatMap ntF) from hw.ow.own 9 (by omega))
  have HB := Lib.hid hw.hB
  clear hw
  go_enter Tryz.func41, Tryz.ntmps41
  go_wp2_with (at_builtin; refine wpList_appN (by rfl) (.tmp 11) (.tmp 15) 38 (by rfl) B 92 i0 _ 2 24 Tryz.underlying38 hi0 hz0 hz1 hz2 (by rfl) (by decide) (v 9) s.notes.length (s.notes.flatMap ntF) (ntF (e, t)) rfl (by simp [ntF, Value.oneCell']) (by rfl) w.heap.size rfl (by rfl) HO.out HB.out (by simp only [maxLen]; omega) (by omega) ?_; intro v' w' h1 h2 h3; obtain ⟨HK, ⟨A', c', rfl⟩, ya, yf⟩ := HW.out.after (i := 9) (p := 9) (by omega) rfl (d' := rdesc (Nb.note s e t) v 9) (by simpa [Desc.Is, rdesc, Nb.note] using h1) h2 h3; clear h1 h2 h3)
  go_end0
  exact ⟨rfl, _, HK.out.re (fun j _ => rdesc_app (s := s) (s' := Nb.note s e t) (by omega) rfl (fun j h1 h2 h3 => by rcases twelve_cases h3 with rfl | rfl | rfl | rfl | rfl | rfl | rfl | rfl | rfl | rfl | rfl | rfl <;> first | rfl | omega) j), fun j hj => upd_ne _ _ hj⟩
theorem rnote_any (h : Ri B w0 w wb k s) (e : Int) (t : Bs) (hn : s.notes.length < 1000000) :
    Calls Tryz.prog 41 #[.pointer (some ⟨wb, 0, none⟩), .int .i64 e, vs t] w fun e' w' => e' = .returned (.tuple #[]) ∧ Ri B w0 w' wb k (Nb.note s e t) := by
  obtain ⟨v, hw⟩ := h
  refine (rnote_rk hw e t hn).mono ?_
  rintro e' w' ⟨rfl, v', h, _⟩
  exact ⟨rfl, v', h⟩
set_option maxRecDepth 100000 in
theorem rhere_any (h : Ri B w0 w wb k s) (hw : s.c.words < 1000000000) : Calls Tryz.prog 42 #[.pointer (some ⟨wb, 0, none⟩)] w fun e' w' => e' = .returned (.int .i64 (Nb.here s)) ∧ w' = w := by
  obtain ⟨⟨_, y1, y2, _⟩, yf⟩ := h.cells
  clear yf h
  unfold Nb.here
  have x1 : IntKind.i64.wrap ((s.c.words : Int) - 1) = (s.c.words : Int) - 1 := IntWalk.i64_in _ (by omega)
  cases ho : s.c.op with
  | true =>
    rw [ho] at y1
    clear ho
    rw [if_pos rfl]
    go_enter Tryz.func42, Tryz.ntmps42
    go_wp2_with fail
    go_ret
    exact ⟨rfl, rfl⟩
  | false =>
    rw [ho] at y1
    clear ho
    rw [if_neg (by simp)]
    go_enter Tryz.func42, Tryz.ntmps42
    go_wp2_with fail
    go_ret
    exact ⟨rfl, rfl⟩
set_option maxRecDepth 100000 in
theorem rmore_any (n : Nat) (hn : n ≤ 999998) (t : Bs) (w : World) : Calls Tryz.prog 60 #[.pointer (some ⟨wb, 0, none⟩), .int .i64 n, vs t] w fun e' w' => e' = .returned (.int .i64 ((n + 1 : Nat) : Int)) ∧ w' = w := by
  have HC := Lib.hid (rAdd_any n hn w)
  obtain ⟨m, hm⟩ : ∃ m, m = n + 1 := ⟨_, rfl⟩
  rw [← hm] at HC ⊢
  clear hm
  go_enter Tryz.func60, Tryz.ntmps60
  go_wp2_with fail
  refine HC.out.mono ?_
  rintro e w1 ⟨rfl, rfl⟩
  go_wp2_with fail
  go_ret
  exact ⟨rfl, rfl⟩
set_option maxRecDepth 100000 in
set_option maxHeartbeats 8000000 in
theorem rblock_any {vw : Value} {ws : List Bs} (h : RiW B w0 w wb k s vw ws) (kd : Int) (hn : s.blocks.length < 1000000) (hw1 : s.c.words < 10000000) (hw2 : ws.length < 10000000) :
    Calls Tryz.prog 49 #[.pointer (some ⟨wb, 0, none⟩), .int .i64 kd, vw] w fun e' w' => e' = .returned (.tuple #[]) ∧ Ri B w0 w' wb k (Nb.close (Nb.block s kd ws)) := by
  obtain ⟨v, hw⟩ := h
  obtain ⟨i0, hi0, hz0, hz1, hz2⟩ := info_parts rbInfo
  obtain ⟨N, hN⟩ : ∃ N, N = 12 + s.blocks.length := ⟨_, rfl⟩
  rw [← hN] at hw
  have hwa := hw.set 14 (.bool false) { s.c with flows := false } rfl
  have hwb := hwa.set 15 (.bool false) { s.c with flows := false, op := false } rfl
  have f14 := hw.frozen 14
  have f15 := hwa.frozen 15
  have f15' := hw.frozen 15
  have y14 := hw.cell 14
  have y15 := hw.cell 15
  simp only [rcells, List.getElem?_cons_succ, List.getElem?_cons_zero] at y14 y15
  have y0w : w.cell? ⟨wb, 0, none⟩ = some (v 0) := by rw [hw.cell 0]; show some (upd v N vw 0) = _; rw [upd_ne _ _ (by omega)]
  have y0 : ((w.setCell ⟨wb, 14, none⟩ (.bool false)).setCell ⟨wb, 15, none⟩ (.bool false)).cell? ⟨wb, 0, none⟩ = some (v 0) := by rw [hwb.cell 0]; show some (upd v N vw 0) = _; rw [upd_ne _ _ (by omega)]
  have ho : ((w.setCell ⟨wb, 14, none⟩ (.bool false)).setCell ⟨wb, 15, none⟩ (.bool false)).ownsRow B 89 2 (v 0) s.blocks.length (blF v 12 s.blocks) := by
    have := hwb.ow.own 0 (by omega)
    rw [upd_ne _ _ (by omega), upd_ne _ _ (by omega)] at this
    exact this
  have hov : ((w.setCell ⟨wb, 14, none⟩ (.bool false)).setCell ⟨wb, 15, none⟩ (.bool false)).ownsRow B 9 1 vw ws.length (ws.flatMap txF) := by
    have := hwb.ow.own N (by omega)
    rw [upd_at, upd_at] at this
    exact this
  obtain ⟨vA, vc, rfl⟩ : ∃ A c, vw = .slice A ws.length c := own_slice hov
  have HW := Lib.hid hwb
  have HO := Lib.hid ho
  have HB := Lib.hid hwb.hB
  have x1 : IntKind.i64.wrap ((s.c.words : Int) + (ws.length : Int)) = ((s.c.words + ws.length : Nat) : Int) := by rw [IntWalk.i64_in _ (by omega)]; omega
  have HNN := Lib.hid hN
  have hv0 : upd v N (.slice vA ws.length vc) 0 = v 0 := upd_ne _ _ (by omega)
  have HV0 := Lib.hid hv0
  clear hw ho hov hN hv0 hwa hwb
  go_enter Tryz.func49, Tryz.ntmps49
  go_wp2_with (at_builtin; refine wpList_appN (by rfl) (.tmp 17) (.tmp 21) 42 (by rfl) B 89 i0 _ 2 32 Tryz.underlying42 hi0 hz0 hz1 hz2 (by rfl) (by decide) (v 0) s.blocks.length (blF v 12 s.blocks) [.int .i64 kd, .slice vA ws.length vc] rfl (by simp [Value.oneCell']) (by rfl) w.heap.size (by simp) (by rfl) HO.out HB.out (by simp only [maxLen]; omega) (by omega) ?_; intro v' w' h1 h2 h3; obtain ⟨HK, ⟨A', c', rfl⟩, ya, yf⟩ := HW.out.after (i := 0) (p := 0) (by omega) rfl (d' := ⟨89, 2, s.blocks.length + 1, blF v 12 s.blocks ++ [Value.int .i64 kd, Value.slice vA ws.length vc]⟩) h1 (by rw [HV0.out]; exact h2) (by rw [HV0.out]; exact h3); have y16 := HK.out.cell 16; have f16 := HK.out.frozen 16; simp only [rcells, List.getElem?_cons_succ, List.getElem?_cons_zero] at y16; rw [HV0.out] at ya; clear h1 h2 h3)
  go_end0
  refine ⟨rfl, ?_⟩
  have h2 := HK.out.set 16 (.int .i64 ((s.c.words : Int) + ws.length)) (Nb.close (Nb.block s kd ws)).c (by
    simp only [rcells, List.set_cons_succ, List.set_cons_zero, Nb.block, Nb.close]
    rw [show (s.c.words : Int) + (ws.length : Int) = ((s.c.words + ws.length : Nat) : Int) by omega])
  have hN := HNN.out
  refine Rk.is (s := Nb.close (Nb.block s kd ws)) h2 (by rw [hN]; simp only [Nb.close, Nb.block, List.length_append, List.length_singleton]; omega) (fun i hi => ?_)
  by_cases h0 : i = 0
  · subst h0
    rw [upd_at]
    simp only [rdesc, Nb.close, Nb.block, List.length_append, List.length_singleton]
    rw [blF_append, blF_congr (v := v) (v' := upd (upd v N (Value.slice vA ws.length vc)) 0 (Value.slice A' (s.blocks.length + 1) c')) s.blocks 12 (fun j h1 h2 => by rw [upd_ne _ _ (by omega), upd_ne _ _ (by omega)])]
    simp only [blF]
    rw [upd_ne _ _ (by omega), ← hN, upd_at]
  · rw [upd_ne _ _ h0]
    by_cases hiN : i = N
    · subst hiN
      rw [upd_at, hN, show 12 + s.blocks.length = s.blocks.length + 12 by omega]
      simp only [rdesc, Nb.close, Nb.block]
      rw [List.getElem?_append_right (Nat.le_refl _)]
      simp
    · rw [upd_ne _ _ hiN]
      by_cases h12 : i < 12
      · rcases twelve_cases h12 with rfl | rfl | rfl | rfl | rfl | rfl | rfl | rfl | rfl | rfl | rfl | rfl <;> first | rfl | omega
      · obtain ⟨m, rfl⟩ : ∃ m, i = m + 12 := ⟨i - 12, by omega⟩
        simp only [rdesc, Nb.close, Nb.block]
        rw [List.getElem?_append_left (by omega)]
end
end Go.Proofs.YtjmmfihmamcopaaGreatDoor
namespace Go.Proofs.YtjmmfihmamcopaaGreatDoor
open Go.RowKit Tx Nb

section
variable {B N wb : Nat} {w0 w w' : World} {k : RCst} {v : Nat → Value} {D : Nat → Desc} {c : Sc}
/-- A list that no cell of the work holds is another one. -/
theorem Rk.turnlist (h : Rk B w0 w wb k v N D c) {i : Nat} (h12 : 12 ≤ i) (hi : i < N) {v' : Value} {d' : Desc} (ho : d'.Is B w' v') (hg : w.grownBy w' (v i).ownBlock) (hb : ∀ j, v'.ownBlock = some j → (v i).ownBlock = some j ∨ w.heap.size ≤ j) : Rk B w0 w' wb k (upd v i v') N (upd D i d') c := by
  have hwl := h.lt wb (k.mem_wb wb)
  refine ⟨Nat.le_trans h.hB hg.size, h.bel.grown hg h.hB (fun j hj => (h.ow.lt hi j hj).1), h.wbB, h.n12, ?_, h.ow.turn hi h.lt (fun j h1 h2 _ => hg.block j h1 (fun e => h2 e.symm)) ho hb, h.res_to (fun p hp => hg.block p.1 (h.lt _ (k.mem_res wb hp)) (fun e => h.ow.out i hi p.1 e.symm (k.mem_res wb hp)))⟩
  rw [hg.block wb hwl (fun e => h.ow.out i hi wb e.symm (k.mem_wb wb)), h.blk]
  unfold RBlk
  rw [rcells_upd v k c h12]
end
/-- The last block's words, where they lie. -/
theorem rlast_cell {B : Nat} {w : World} {v0 : Value} {v : Nat → Value} {bs : List (Int × List Bs)} {kd : Int} {ws : List Bs} (ho : w.ownsRow B 89 2 v0 (bs.length + 1) (blF v 12 (bs ++ [(kd, ws)]))) :
    ∃ g c, v0 = .slice (some ⟨g, 0, none⟩) (bs.length + 1) c ∧ w.cell? ⟨g, bs.length * 2 + 1, none⟩ = some (v (12 + bs.length)) ∧ w.frozen? ⟨g, bs.length * 2 + 1, none⟩ = false := by
  obtain ⟨g, c, e, _, _, _, _, hcl⟩ := own_some ho (by omega)
  obtain ⟨z0, zf0⟩ := hcl (bs.length * 2 + 1) (by omega)
  rw [blF_append, List.getElem?_append_right (by rw [blF_len]; omega), blF_len, show bs.length * 2 + 1 - bs.length * 2 = 1 by omega] at z0
  exact ⟨g, c, e, z0, zf0⟩
section
variable {B wb : Nat} {w0 w : World} {k : RCst} {s : St}
theorem Rk.last_own {v : Nat → Value} (h : Rk B w0 w wb k v (12 + s.blocks.length) (rdesc s v) s.c) {bs : List (Int × List Bs)} {kd : Int} {ws : List Bs} (hbl : s.blocks = bs ++ [(kd, ws)]) :
    w.ownsRow B 89 2 (v 0) (bs.length + 1) (blF v 12 (bs ++ [(kd, ws)])) ∧ w.ownsRow B 9 1 (v (12 + bs.length)) ws.length (ws.flatMap txF) := by
  constructor
  · have := h.ow.own 0 (by omega)
    simp only [Desc.Is, rdesc, hbl, List.length_append, List.length_singleton] at this
    exact this
  · have := h.ow.own (12 + bs.length) (by rw [hbl]; simp)
    rw [show 12 + bs.length = bs.length + 12 by omega] at this ⊢
    simp only [Desc.Is, rdesc, hbl] at this
    rw [List.getElem?_append_right (Nat.le_refl _)] at this
    simpa using this
theorem rdesc_last {v : Nat → Value} {bs : List (Int × List Bs)} {kd : Int} {ws ws' : List Bs} (hbl : s.blocks = bs ++ [(kd, ws)]) {v' : Value} (i : Nat) (hi : i < 12 + s.blocks.length) :
    upd (upd (rdesc s v) (12 + bs.length) ⟨9, 1, ws'.length, ws'.flatMap txF⟩) 0 ⟨89, 2, bs.length + 1, (blF v 12 s.blocks).set (bs.length * 2 + 1) v'⟩ i = rdesc { s with blocks := bs ++ [(kd, ws')] } (upd v (12 + bs.length) v') i := by
  by_cases h0 : i = 0
  · subst h0
    rw [upd_at]
    simp only [rdesc, List.length_append, List.length_singleton]
    have e1 : blF v 12 s.blocks = blF v 12 bs ++ [.int .i64 kd, v (12 + bs.length)] := by rw [hbl, blF_append]; rfl
    have e2 : blF (upd v (12 + bs.length) v') 12 (bs ++ [(kd, ws')]) = blF v 12 bs ++ [.int .i64 kd, v'] := by
      rw [blF_append, blF_congr (v := v) (v' := upd v (12 + bs.length) v') bs 12 (fun j h1 h2 => upd_ne _ _ (by omega))]
      simp only [blF]
      rw [upd_at]
    rw [e1, e2, List.set_append_right _ _ (by rw [blF_len]; omega), blF_len, show bs.length * 2 + 1 - bs.length * 2 = 1 by omega]
    rfl
  · rw [upd_ne _ _ h0]
    by_cases hiN : i = 12 + bs.length
    · subst hiN
      rw [upd_at, show 12 + bs.length = bs.length + 12 by omega]
      simp only [rdesc]
      rw [List.getElem?_append_right (Nat.le_refl _)]
      simp
    · rw [upd_ne _ _ hiN]
      by_cases h12 : i < 12
      · rcases twelve_cases h12 with rfl | rfl | rfl | rfl | rfl | rfl | rfl | rfl | rfl | rfl | rfl | rfl <;> first | rfl | omega
      · obtain ⟨m, rfl⟩ : ∃ m, i = m + 12 := ⟨i - 12, by omega⟩
        have hm : m < bs.length := by rw [hbl] at hi; simp at hi; omega
        simp only [rdesc, hbl]
        rw [List.getElem?_append_left hm, List.getElem?_append_left hm]
/-- The last block's words are in another slice. -/
theorem Rk.last_to {w' : World} {v : Nat → Value} (h : Rk B w0 w wb k v (12 + s.blocks.length) (rdesc s v) s.c) {bs : List (Int × List Bs)} {kd : Int} {ws ws' : List Bs} (hbl : s.blocks = bs ++ [(kd, ws)])
    {v' : Value} (ho : w'.ownsRow B 9 1 v' ws'.length (ws'.flatMap txF)) (hg : w.grownBy w' (v (12 + bs.length)).ownBlock) (hb : ∀ j, v'.ownBlock = some j → (v (12 + bs.length)).ownBlock = some j ∨ w.heap.size ≤ j)
    {g c : Nat} (hv0 : v 0 = .slice (some ⟨g, 0, none⟩) (bs.length + 1) c) : Ri B w0 (w'.setCell ⟨g, bs.length * 2 + 1, none⟩ v') wb k { s with blocks := bs ++ [(kd, ws')] } := by
  have hN : 12 + bs.length < 12 + s.blocks.length := by rw [hbl]; simp
  have h1 := h.turnlist (by omega) hN (d' := ⟨9, 1, ws'.length, ws'.flatMap txF⟩) ho hg hb
  have hu0 : upd v (12 + bs.length) v' 0 = .slice (some ⟨g, 0, none⟩) (bs.length + 1) c := by rw [upd_ne _ _ (by omega), hv0]
  have hd0 : upd (rdesc s v) (12 + bs.length) ⟨9, 1, ws'.length, ws'.flatMap txF⟩ 0 = ⟨89, 2, bs.length + 1, blF v 12 s.blocks⟩ := by
    rw [upd_ne _ _ (by omega)]
    simp [rdesc, hbl]
  have h2 := h1.inplace (i := 0) (by omega) hu0 (bs.length * 2 + 1) v' (by rw [hd0])
  rw [hd0] at h2
  exact Rk.is (s := { s with blocks := bs ++ [(kd, ws')] }) h2 (by rw [hbl]; simp) (fun i hi => rdesc_last hbl i hi)
/-- The last word of the last block is another one. -/
theorem Rk.word_to {v : Nat → Value} (h : Rk B w0 w wb k v (12 + s.blocks.length) (rdesc s v) s.c) {bs : List (Int × List Bs)} {kd : Int} {ws : List Bs} {x : Bs} (hbl : s.blocks = bs ++ [(kd, ws ++ [x])])
    {g c : Nat} (hv : v (12 + bs.length) = .slice (some ⟨g, 0, none⟩) (ws.length + 1) c) (y : Bs) : Ri B w0 (w.setCell ⟨g, ws.length, none⟩ (vs y)) wb k { s with blocks := bs ++ [(kd, ws ++ [y])] } := by
  have hN : 12 + bs.length < 12 + s.blocks.length := by rw [hbl]; simp
  have hd : rdesc s v (12 + bs.length) = ⟨9, 1, (ws ++ [x]).length, (ws ++ [x]).flatMap txF⟩ := by
    rw [show 12 + bs.length = bs.length + 12 by omega]
    simp only [rdesc, hbl]
    rw [List.getElem?_append_right (Nat.le_refl _)]
    simp
  have h2 := h.inplace hN hv ws.length (vs y) (by rw [hd]; simp)
  rw [hd] at h2
  have e1 : ((ws ++ [x]).flatMap txF).set ws.length (vs y) = (ws ++ [y]).flatMap txF := by
    have hl : (ws.flatMap txF).length = ws.length := by have := flat_length (f := txF) (n := 1) (fun _ => rfl) ws; omega
    rw [List.flatMap_append, List.flatMap_append, List.set_append_right _ _ (by omega), hl, Nat.sub_self]
    rfl
  simp only [e1] at h2
  refine Rk.is (s := { s with blocks := bs ++ [(kd, ws ++ [y])] }) h2 (by rw [hbl]; simp) (fun i hi => ?_)
  by_cases hiN : i = 12 + bs.length
  · subst hiN
    rw [upd_at, show 12 + bs.length = bs.length + 12 by omega]
    simp only [rdesc]
    rw [List.getElem?_append_right (Nat.le_refl _)]
    simp
  · rw [upd_ne _ _ hiN]
    by_cases h0 : i = 0
    · subst h0
      simp only [rdesc, hbl]
      rw [blF_append, blF_append]
      simp [blF]
    · by_cases h12 : i < 12
      · rcases twelve_cases h12 with rfl | rfl | rfl | rfl | rfl | rfl | rfl | rfl | rfl | rfl | rfl | rfl <;> first | rfl | omega
      · obtain ⟨m, rfl⟩ : ∃ m, i = m + 12 := ⟨i - 12, by omega⟩
        have hm : m < bs.length := by rw [hbl] at hi; simp at hi; omega
        simp only [rdesc, hbl]
        rw [List.getElem?_append_left hm, List.getElem?_append_left hm]
theorem rrow_own (w : World) (t : Bs) : OwnC 9 1 txF w.heap.size (w.alloc (.cells #[vs t] 9)) (.slice (some ⟨w.heap.size, 0, none⟩) 1 1) [t] := rowC_lit (f := txF) (fun _ => rfl) 9 [t] w (by simp [maxLen])
set_option maxRecDepth 100000 in
set_option maxHeartbeats 16000000 in
theorem rsay_any (h : Ri B w0 w wb k s) (hi : Inv s) (T : Nat) (hT : T ≤ 900000) (hd : Bd s T) (t : Bs) (ht : t.length ≤ 1000) :
    Calls Tryz.prog 35 #[.pointer (some ⟨wb, 0, none⟩), vs t] w fun e' w' => e' = .returned (.tuple #[]) ∧ Ri B w0 w' wb k (Nb.say s t) := by
  have HS := Lib.hid h
  by_cases h0 : t = []
  · subst h0
    have he : ((bs []).toList == []) = true := by rw [toList_bs]; rfl
    go_enter Tryz.func35, Tryz.ntmps35
    go_wp2_with fail
    refine bodyPost_ret (results_none rfl _ _ _) rfl ?_
    exact ⟨rfl, by simpa [Nb.say] using HS.out⟩
  · have he : ((bs t).toList == []) = false := by rw [toList_bs]; simp [h0]
    obtain ⟨⟨y14, y15, -⟩, yf⟩ := h.cells
    have hbln := hd.bl
    have hwo := hd.wo
    cases hf : s.c.flows with
    | false =>
      have hop : s.c.op = false := by
        cases ho : s.c.op with
        | false => rfl
        | true => exact absurd (hi.op ho) (by simp [hf])
      rw [hop] at y15
      rw [hf] at y14
      obtain ⟨v, hw⟩ := h
      obtain ⟨A0, c0, hv0⟩ : ∃ A c, v 0 = .slice A s.blocks.length c := own_slice (hw.ow.own 0 (by omega))
      have y0 : w.cell? ⟨wb, 0, none⟩ = some (.slice A0 s.blocks.length c0) := (hw.cell 0).trans (by rw [← hv0]; rfl)
      have x1 : IntKind.i64.wrap ((s.blocks.length : Int) - 1) = (s.blocks.length : Int) - 1 := IntWalk.i64_in _ (by omega)
      have HBL := Lib.hid (rblock_any (HS.out.with ((Below.refl w.heap.size w).alloc (Nat.le_refl _) _) (rrow_own w t)) 0 (by omega) (by omega) (by simp))
      have HR : Hid (Nb.say s t = { Nb.close (Nb.block s 0 [t]) with c := { (Nb.close (Nb.block s 0 [t])).c with flows := true, op := true } }) := Lib.hid (by
        simp [Nb.say, flow, h0, hf, Nb.block, Nb.close, hop, onLast])
      clear hw hv0 hf hop h0 hi hd yf
      go_enter Tryz.func35, Tryz.ntmps35
      go_wp2_with fail
      refine HBL.out.mono ?_
      rintro e w1 ⟨rfl, H1⟩
      have HS1 := Lib.hid H1
      have f0 := H1.cells.2 14
      have f1 := H1.cells.2 15
      obtain ⟨⟨z0, z1, -⟩, -⟩ := H1.cells
      clear H1
      go_wp2_with fail
      go_end0
      exact ⟨rfl, by rw [HR.out]; exact (HS1.out.flows true).op true⟩
    | true =>
      obtain ⟨bs0, ws, hbl, hop0⟩ := hi.fl hf
      obtain ⟨v, hw⟩ := h
      obtain ⟨ho0, how⟩ := hw.last_own hbl
      obtain ⟨g, c0, hv0, z0, zf0⟩ := rlast_cell ho0
      obtain ⟨A1, c1, hv1⟩ : ∃ A c, v (12 + bs0.length) = .slice A ws.length c := own_slice how
      have hbll : s.blocks.length = bs0.length + 1 := by rw [hbl]; simp
      have hwd := hd.wd (0, ws) (by rw [hbl]; simp)
      have y0 : w.cell? ⟨wb, 0, none⟩ = some (.slice (some ⟨g, 0, none⟩) (bs0.length + 1) c0) := (hw.cell 0).trans (by rw [← hv0]; rfl)
      have x1 : IntKind.i64.wrap (((bs0.length + 1 : Nat) : Int) - 1) = (bs0.length : Int) := by rw [IntWalk.i64_in _ (by omega)]; omega
      have hm1 : (bs0.length : Int) < ((bs0.length + 1 : Nat) : Int) := by omega
      have hm2 : (bs0.length : Int) < (bs0.length : Int) + 1 := by omega
      have hm0 : (0 : Int) ≤ (bs0.length : Int) := by omega
      have HW := Lib.hid hw
      have HBL := Lib.hid hbl
      have HV0 := Lib.hid hv0
      have HV1 := Lib.hid hv1
      have HOW := Lib.hid how
      rw [hf] at y14
      cases hop : s.c.op with
      | true =>
        obtain ⟨ws0, x, rfl⟩ : ∃ a x, ws = a ++ [x] := ⟨ws.dropLast, ws.getLast (hop0 hop), (List.dropLast_concat_getLast _).symm⟩
        have hxl : x.length ≤ T := hwd.2 x (by simp)
        have hwl := hwd.1
        rw [List.length_append, List.length_singleton] at how hwl
        obtain ⟨g2, c2, hv2, _, _, hgc2, hgm2, hcl2⟩ := own_some how (by omega)
        obtain ⟨z1, zf1⟩ := hcl2 ws0.length (by omega)
        rw [List.flatMap_append, List.getElem?_append_right (by rw [flat_length (f := txF) (n := 1) (fun _ => rfl)]; omega), flat_length (f := txF) (n := 1) (fun _ => rfl), show ws0.length - ws0.length * 1 = 0 by omega] at z1
        have z1' : w.cell? ⟨g2, ws0.length, none⟩ = some (vs x) := z1
        rw [hv2] at z0
        rw [hop] at y15
        have x2 : IntKind.i64.wrap (((ws0.length + 1 : Nat) : Int) - 1) = (ws0.length : Int) := by rw [IntWalk.i64_in _ (by omega)]; omega
        have m1 : (ws0.length : Int) < ((ws0.length + 1 : Nat) : Int) := by omega
        have m0 : (0 : Int) ≤ (ws0.length : Int) := by omega
        have o1 : bs x ++ bs t = bs (x ++ t) := bs_append x t
        have o2 : ¬ (9223372036854775807 < (bs x).size + (bs t).size) := by rw [bs_size, bs_size]; omega
        have HV2 := Lib.hid hv2
        have HR : Hid (Nb.say s t = { s with blocks := bs0 ++ [(0, ws0 ++ [x ++ t])] }) := Lib.hid (by
          unfold Nb.say flow
          rw [if_neg h0, if_pos hf]
          simp only [hop, if_true, hbl, onLast_snoc])
        clear hw hv0 hv1 hf hop h0 hi hd yf ho0 how hcl2 hgm2 z1 hv2 hbl hop0 hwd
        go_enter Tryz.func35, Tryz.ntmps35
        go_wp2_with fail
        refine bodyPost_ret (results_none rfl _ _ _) rfl ?_
        refine ⟨rfl, ?_⟩
        rw [HR.out]
        exact HW.out.word_to HBL.out HV2.out (x ++ t)
      | false =>
        rw [hop] at y15
        rw [hv1] at z0
        have x3 : IntKind.i64.wrap ((s.c.words : Int) + 1) = ((s.c.words + 1 : Nat) : Int) := by rw [IntWalk.i64_in _ (by omega)]; omega
        have HR : Hid (Nb.say s t = { s with blocks := bs0 ++ [(0, ws ++ [t])], c := { s.c with words := s.c.words + 1, flows := true, op := true } }) := Lib.hid (by
          unfold Nb.say flow
          rw [if_neg h0, if_pos hf]
          simp only [hop, hbl, onLast_snoc]
          simp [hf])
        have hwl : ws.length ≤ T := hwd.1
        clear hw hv0 hv1 hf hop h0 hi hd yf ho0 how hbl hop0 hwd
        go_enter Tryz.func35, Tryz.ntmps35
        go_upto_region 6 with fail
        obtain ⟨i0, hi0, hz0, hz1, hz2⟩ := info_parts strInfo
        have hbd : Below w.heap.size w (w.drew.alloc (.cells #[vs t] 9)) := ((Below.refl w.heap.size w).drew).alloc (Nat.le_refl _) _
        have hW1 := HW.out.below hbd
        have HW1 := Lib.hid hW1
        have HD := Lib.hid (heap_alloc_new w.drew (.cells #[vs t] 9))
        have hS0 : (fun wz : World => wz.cell? ⟨wb, 0, none⟩ = some (.slice (some ⟨g, 0, none⟩) (bs0.length + 1) c0) ∧ wz.cell? ⟨g, bs0.length * 2 + 1, none⟩ = some (.slice A1 ws.length c1)) w.drew := ⟨y0, z0⟩
        have hS1 : (fun wz : World => wz.cell? ⟨wb, 0, none⟩ = some (.slice (some ⟨g, 0, none⟩) (bs0.length + 1) c0) ∧ wz.cell? ⟨g, bs0.length * 2 + 1, none⟩ = some (.slice A1 ws.length c1)) (w.drew.alloc (.cells #[vs t] 9)) := ⟨(hW1.cell 0).trans (by rw [← HV0.out]; rfl), (hbd.cell (p := ⟨g, bs0.length * 2 + 1, none⟩) (World.block_lt_of_cell? w _ z0)).trans z0⟩
        have HOW1 := Lib.hid (show (w.drew.alloc (.cells #[vs t] 9)).ownsRow B 9 1 (.slice A1 ws.length c1) ws.length (ws.flatMap txF) by rw [← HV1.out]; exact own_below HOW.out hbd)
        clear hW1 hbd
        refine wp_region_headS 18 (fun wz : World => wz.cell? ⟨wb, 0, none⟩ = some (.slice (some ⟨g, 0, none⟩) (bs0.length + 1) c0) ∧ wz.cell? ⟨g, bs0.length * 2 + 1, none⟩ = some (.slice A1 ws.length c1)) (by kernel_rfl) (by kernel_rfl) ?_
        refine WS_take (i := 0) (v := ?va0) (by simp only [List.getElem?_toArray, List.getElem?_cons_zero]; rfl) (by decide) (by kernel_rfl) (by kernel_rfl) (by intro _ _ _ h; exact h) (Or.inl ⟨by rfl, ?hya0⟩) hS0 ?resta0
        case hya0 =>
          intro wx hx
          obtain ⟨s1, s2⟩ := hx
          go_simp
          try with_reducible rfl
        try simp only [Act.put, List.setIfInBounds_toArray, List.set_cons_zero, List.set_cons_succ]
        refine WS_take (i := 1) (v := ?va1) (by simp only [List.getElem?_toArray, List.getElem?_cons_succ, List.getElem?_cons_zero]; rfl) (by decide) (by kernel_rfl) (by kernel_rfl) (by intro _ _ _ h; exact h) (Or.inl ⟨by rfl, ?hya1⟩) hS0 ?resta1
        case hya1 =>
          intro wx hx
          obtain ⟨s1, s2⟩ := hx
          go_simp
          try with_reducible rfl
        try simp only [Act.put, List.setIfInBounds_toArray, List.set_cons_zero, List.set_cons_succ]
        refine WS_take (i := 2) (v := ?va2) (by simp only [List.getElem?_toArray, List.getElem?_cons_succ, List.getElem?_cons_zero]; rfl) (by decide) (by kernel_rfl) (by kernel_rfl) (by intro _ _ _ h; exact h) (Or.inl ⟨by rfl, ?hya2⟩) hS0 ?resta2
        case hya2 =>
          intro wx hx
          obtain ⟨s1, s2⟩ := hx
          go_simp
          try with_reducible rfl
        try simp only [Act.put, List.setIfInBounds_toArray, List.set_cons_zero, List.set_cons_succ]
        refine WS_take (i := 3) (v := ?va3) (by simp only [List.getElem?_toArray, List.getElem?_cons_succ, List.getElem?_cons_zero]; rfl) (by decide) (by kernel_rfl) (by kernel_rfl) (by intro _ _ _ h; exact h) (Or.inl ⟨by rfl, ?hya3⟩) hS0 ?resta3
        case hya3 =>
          intro wx hx
          obtain ⟨s1, s2⟩ := hx
          go_simp
          try with_reducible rfl
        try simp only [Act.put, List.setIfInBounds_toArray, List.set_cons_zero, List.set_cons_succ]
        refine WS_take (i := 4) (v := ?va4) (by simp only [List.getElem?_toArray, List.getElem?_cons_succ, List.getElem?_cons_zero]; rfl) (by decide) (by kernel_rfl) (by kernel_rfl) (by intro _ _ _ h; exact h) (Or.inl ⟨by rfl, ?hya4⟩) hS0 ?resta4
        case hya4 =>
          intro wx hx
          obtain ⟨s1, s2⟩ := hx
          go_simp
          try with_reducible rfl
        try simp only [Act.put, List.setIfInBounds_toArray, List.set_cons_zero, List.set_cons_succ]
        refine WS_take (i := 5) (v := ?va5) (by simp only [List.getElem?_toArray, List.getElem?_cons_succ, List.getElem?_cons_zero]; rfl) (by decide) (by kernel_rfl) (by kernel_rfl) (by intro _ _ _ h; exact h) (Or.inl ⟨by rfl, ?hya5⟩) hS0 ?resta5
        case hya5 =>
          intro wx hx
          obtain ⟨s1, s2⟩ := hx
          go_simp
          try with_reducible rfl
        try simp only [Act.put, List.setIfInBounds_toArray, List.set_cons_zero, List.set_cons_succ]
        refine WS_take (i := 6) (v := ?va6) (by simp only [List.getElem?_toArray, List.getElem?_cons_succ, List.getElem?_cons_zero]; rfl) (by decide) (by kernel_rfl) (by kernel_rfl) (by intro _ _ _ h; exact h) (Or.inl ⟨by rfl, ?hya6⟩) hS0 ?resta6
        case hya6 =>
          intro wx hx
          obtain ⟨s1, s2⟩ := hx
          go_simp
          try with_reducible rfl
        try simp only [Act.put, List.setIfInBounds_toArray, List.set_cons_zero, List.set_cons_succ]
        refine WS_take (i := 7) (v := ?va7) (by simp only [List.getElem?_toArray, List.getElem?_cons_succ, List.getElem?_cons_zero]; rfl) (by decide) (by kernel_rfl) (by kernel_rfl) (by intro _ _ _ h; exact h) (Or.inl ⟨by rfl, ?hya7⟩) hS0 ?resta7
        case hya7 =>
          intro wx hx
          obtain ⟨s1, s2⟩ := hx
          go_simp
          try with_reducible rfl
        try simp only [Act.put, List.setIfInBounds_toArray, List.set_cons_zero, List.set_cons_succ]
        refine WS_take (i := 8) (v := ?va8) (by simp only [List.getElem?_toArray, List.getElem?_cons_succ, List.getElem?_cons_zero]; rfl) (by decide) (by kernel_rfl) (by kernel_rfl) (by intro _ _ _ h; exact h) (Or.inl ⟨by rfl, ?hya8⟩) hS0 ?resta8
        case hya8 =>
          intro wx hx
          obtain ⟨s1, s2⟩ := hx
          go_simp
          try with_reducible rfl
        try simp only [Act.put, List.setIfInBounds_toArray, List.set_cons_zero, List.set_cons_succ]
        refine WS_take (i := 9) (v := ?va9) (by simp only [List.getElem?_toArray, List.getElem?_cons_succ, List.getElem?_cons_zero]; rfl) (by decide) (by kernel_rfl) (by kernel_rfl) (by intro _ _ _ h; exact h) (Or.inl ⟨by rfl, ?hya9⟩) hS0 ?resta9
        case hya9 =>
          intro wx hx
          obtain ⟨s1, s2⟩ := hx
          go_simp
          try with_reducible rfl
        try simp only [Act.put, List.setIfInBounds_toArray, List.set_cons_zero, List.set_cons_succ]
        refine WS_take (i := 10) (v := ?va10) (by simp only [List.getElem?_toArray, List.getElem?_cons_succ, List.getElem?_cons_zero]; rfl) (by decide) (by kernel_rfl) (by kernel_rfl) (by intro _ _ _ h; exact h) (Or.inl ⟨by rfl, ?hya10⟩) hS0 ?resta10
        case hya10 =>
          intro wx hx
          obtain ⟨s1, s2⟩ := hx
          go_simp
          try with_reducible rfl
        try simp only [Act.put, List.setIfInBounds_toArray, List.set_cons_zero, List.set_cons_succ]
        refine WS_take (i := 11) (v := ?va11) (by simp only [List.getElem?_toArray, List.getElem?_cons_succ, List.getElem?_cons_zero]; rfl) (by decide) (by kernel_rfl) (by kernel_rfl) (by intro _ _ _ h; exact h) (Or.inl ⟨by rfl, ?hya11⟩) hS0 ?resta11
        case hya11 =>
          intro wx hx
          obtain ⟨s1, s2⟩ := hx
          go_simp
          try with_reducible rfl
        try simp only [Act.put, List.setIfInBounds_toArray, List.set_cons_zero, List.set_cons_succ]
        refine WS_take (i := 12) (v := ?va12) (by simp only [List.getElem?_toArray, List.getElem?_cons_succ, List.getElem?_cons_zero]; rfl) (by decide) (by kernel_rfl) (by kernel_rfl) (by intro _ _ _ h; exact h) (Or.inl ⟨by rfl, ?hya12⟩) hS0 ?resta12
        case hya12 =>
          intro wx hx
          obtain ⟨s1, s2⟩ := hx
          go_simp
          try with_reducible rfl
        try simp only [Act.put, List.setIfInBounds_toArray, List.set_cons_zero, List.set_cons_succ]
        refine WS_take (i := 13) (v := ?va13) (by simp only [List.getElem?_toArray, List.getElem?_cons_succ, List.getElem?_cons_zero]; rfl) (by decide) (by kernel_rfl) (by kernel_rfl) (by intro _ _ _ h; exact h) (Or.inl ⟨by rfl, ?hya13⟩) hS0 ?resta13
        case hya13 =>
          intro wx hx
          obtain ⟨s1, s2⟩ := hx
          go_simp
          try with_reducible rfl
        try simp only [Act.put, List.setIfInBounds_toArray, List.set_cons_zero, List.set_cons_succ]
        refine WS_take (i := 14) (v := ?va14) (by simp only [List.getElem?_toArray, List.getElem?_cons_succ, List.getElem?_cons_zero]; rfl) (by decide) (by kernel_rfl) (by kernel_rfl) (by intro _ _ _ h; exact h) (Or.inl ⟨by rfl, ?hya14⟩) hS0 ?resta14
        case hya14 =>
          intro wx hx
          obtain ⟨s1, s2⟩ := hx
          go_simp
          try with_reducible rfl
        try simp only [Act.put, List.setIfInBounds_toArray, List.set_cons_zero, List.set_cons_succ]
        refine WS_take (i := 15) (v := ?va15) (by simp only [List.getElem?_toArray, List.getElem?_cons_succ, List.getElem?_cons_zero]; rfl) (by decide) (by kernel_rfl) (by kernel_rfl) (by intro _ _ _ h; exact h) (Or.inl ⟨by rfl, ?hya15⟩) hS0 ?resta15
        case hya15 =>
          intro wx hx
          obtain ⟨s1, s2⟩ := hx
          go_simp
          try with_reducible rfl
        try simp only [Act.put, List.setIfInBounds_toArray, List.set_cons_zero, List.set_cons_succ]
        refine WS_one (i := 16) (by simp only [List.getElem?_toArray, List.getElem?_cons_succ, List.getElem?_cons_zero]; rfl) (by decide) (by kernel_rfl) (fun K hK => (if_pos (by kernel_rfl)).mpr ?_)
        go_simp
        refine hK _ _ hS1 ?_
        clear hK K
        try simp only [Act.put, List.setIfInBounds_toArray, List.set_cons_zero, List.set_cons_succ]
        refine WS_one (i := 17) (by simp only [List.getElem?_toArray, List.getElem?_cons_succ, List.getElem?_cons_zero]; rfl) (by decide) (by kernel_rfl) (fun K hK => step_appB (by rfl) (.tmp 59) (.tmp 61) 25 (by rfl) B 9 i0 _ 1 16 Tryz.underlying25 hi0 hz0 hz1 hz2 (by rfl) (by decide) (.slice A1 ws.length c1) ws.length (ws.flatMap txF) (txF t) rfl (by simp [txF, Value.oneCell']) (by rfl) w.drew.heap.size (by rfl) HD.out HOW1.out HW1.out.hB (by simp only [maxLen]; omega) (by omega) ?_)
        intro v' w' h1 h2 h3
        have hL := HW1.out.last_to (w' := w') (v' := v') HBL.out (ws' := ws ++ [t]) (by simpa using h1) (by rw [HV1.out]; exact h2) (by rw [HV1.out]; exact h3) HV0.out
        have HL := Lib.hid hL
        have hT1 := HW1.out.turnlist (w' := w') (i := 12 + bs0.length) (by omega) (by rw [HBL.out]; simp) (v' := v') (d' := ⟨9, 1, ws.length + 1, ws.flatMap txF ++ txF t⟩) h1 (by rw [HV1.out]; exact h2) (by rw [HV1.out]; exact h3)
        have hq0 : w'.ownsRow B 89 2 (v 0) (bs0.length + 1) (blF v 12 (bs0 ++ [(0, ws)])) := by
          have := hT1.ow.own 0 (by omega)
          rw [upd_ne _ _ (by omega), upd_ne _ _ (by omega)] at this
          simp only [Desc.Is, rdesc, HBL.out, List.length_append, List.length_singleton] at this
          exact this
        obtain ⟨g9, c9, e9, q1, q2⟩ := rlast_cell hq0
        rw [HV0.out] at e9
        injection e9 with e9 e10 e11
        injection e9 with e9
        injection e9 with e9
        subst e9
        have q3 : w'.cell? ⟨wb, 0, none⟩ = some (.slice (some ⟨g, 0, none⟩) (bs0.length + 1) c0) := by
          rw [hT1.cell 0]
          show some (upd v (12 + bs0.length) v' 0) = _
          rw [upd_ne _ _ (by omega), HV0.out]
        rw [HV1.out] at q1
        have hS2 : (fun wz : World => wz.cell? ⟨wb, 0, none⟩ = some (.slice (some ⟨g, 0, none⟩) (bs0.length + 1) c0) ∧ wz.cell? ⟨g, bs0.length * 2 + 1, none⟩ = some (.slice A1 ws.length c1)) w' := ⟨q3, q1⟩
        obtain ⟨A9, n9, c9, rfl⟩ : ∃ A n c, v' = .slice A n c := by
          obtain ⟨A, c, e⟩ := own_slice h1
          exact ⟨A, _, c, e⟩
        obtain ⟨⟨y14', y15', y16', -⟩, yf⟩ := hL.cells
        have f14 := yf 14
        have f15 := yf 15
        have f16 := yf 16
        simp only at y14' y15' y16'
        refine hK _ _ hS2 ?_
        clear hK K h1 h2 h3 hL hT1 hq0 hS0 hS1 hS2 yf y14 y15
        try simp only [Act.put, List.setIfInBounds_toArray, List.set_cons_zero, List.set_cons_succ]
        refine WS_done (by kernel_rfl) ?_
        simp only [List.drop_succ_cons, List.drop_zero]
        go_wp2_with fail
        go_end0
        refine ⟨rfl, ?_⟩
        rw [HR.out, show (s.c.words : Int) + 1 = ((s.c.words + 1 : Nat) : Int) by omega]
        exact ((HL.out.words (s.c.words + 1)).flows true).op true
end
end Go.Proofs.YtjmmfihmamcopaaGreatDoor
namespace Go.Proofs.YtjmmfihmamcopaaGreatDoor
open Go.RowKit Go.Lib Go.Sort Tx Nb

/-- The last text of an own row, and a row with another last one. -/
theorem Txs.last {base : Nat} {w : World} {v : Value} {l : List Bs} {x : Bs} (h : Txs base w v (l ++ [x])) :
    ∃ g cap, v = .slice (some ⟨g, 0, none⟩) (l.length + 1) cap ∧ base ≤ g ∧ g < w.heap.size ∧ l.length + 1 ≤ cap ∧ cap ≤ maxLen ∧ w.cell? ⟨g, l.length, none⟩ = some (.string (bs x)) ∧ w.frozen? ⟨g, l.length, none⟩ = false ∧
      ∀ y, Txs base (w.setCell ⟨g, l.length, none⟩ (.string (bs y))) v (l ++ [y]) := by
  have hl : (l ++ [x]).length = l.length + 1 := by simp
  obtain ⟨g, cap, rfl, q1, q2, q3, q4, q5⟩ := h.shape (by simp)
  have q := q5 l.length (by simp)
  simp at q
  rw [hl] at q3
  refine ⟨g, cap, by rw [hl], q1, q2, q3, q4, q.1, q.2, fun y => ?_⟩
  have h' : w.ownsRow base 9 1 (.slice (some ⟨g, 0, none⟩) (l ++ [x]).length cap) (l ++ [x]).length ((l ++ [x]).map vs) := h
  rcases h'.2 with ⟨e, _⟩ | ⟨g', cap', cur, e, hb, hg, hnc, hcm, hcs, htk⟩
  · cases e
  · cases e
    have hy : (l ++ [y]).length = (l ++ [x]).length := by simp
    refine ⟨by simp, .inr ⟨g, cap, _, by rw [hy], hb, cells_set hg _, by rw [hy]; exact hnc, hcm, by simpa using hcs, ?_⟩⟩
    rw [hl, Nat.mul_one] at htk
    rw [hy, hl, Nat.mul_one]
    apply List.ext_getElem?
    intro k
    have hk := congrArg (fun z : List Value => z[k]?) htk
    simp only [List.getElem?_take] at hk ⊢
    by_cases hkl : k < l.length + 1
    · rw [if_pos hkl] at hk ⊢
      by_cases he : k = l.length
      · subst he
        have : l.length < cur.size := by rw [hcs]; omega
        simp [this]
      · have h2 : k < l.length := by omega
        rw [Array.getElem?_toList, Array.getElem?_setIfInBounds_ne (by omega), ← Array.getElem?_toList, hk]
        simp [h2, List.getElem?_append_left]
    · rw [if_neg hkl]
      simp
      omega

theorem get_list (s : ByteArray) (k : Nat) (h : k < s.size) : s.get! k = s.data.toList[k]'(by rw [size_list]; exact h) := by
  simp [ByteArray.get!, getElem!_pos, h]
namespace Nb
def is32 (c : UInt8) : Bool := c == 32
theorem index_piece : ∀ (l m : Bs), (∀ c ∈ l, is32 c = false) → Lib.index (l ++ 32 :: m) [32] = l.length
  | [], m, _ => by simp [Lib.index]
  | b :: l, m, h => by
    have hb : b ≠ 32 := by have := h b (by simp); simpa [is32] using this
    have ih := index_piece l m (fun c hc => h c (by simp [hc]))
    have hp : ([32] : Bs).isPrefixOf (b :: (l ++ 32 :: m)) = false := by simp [List.isPrefixOf, Ne.symm hb]
    rw [List.cons_append, Lib.index, if_neg (by rw [hp]; simp), ih]
    rw [if_neg (by simp)]
    rfl
theorem split_piece (l m : Bs) (h : ∀ c ∈ l, is32 c = false) : spl (l ++ 32 :: m) = l :: spl m := by
  have hc : Lib.count (l ++ 32 :: m) [32] = Lib.count m [32] + 1 := by
    rw [Lib.count_one, Lib.count_one, List.count_append, List.count_cons_self]
    have : List.count 32 l = 0 := List.count_eq_zero.2 (fun hm => by have := h 32 hm; simp [is32] at this)
    omega
  unfold spl Lib.split
  rw [hc]
  show (if Lib.index (l ++ 32 :: m) [32] == -1 then [l ++ 32 :: m] else (l ++ 32 :: m).take ((Lib.index (l ++ 32 :: m) [32]).toNat + 0) :: Lib.splitK [32] 0 (Lib.count m [32]) ((l ++ 32 :: m).drop ((Lib.index (l ++ 32 :: m) [32]).toNat + ([32] : Bs).length))) = _
  rw [index_piece l m h, if_neg (by simp)]
  have e1 : ((l.length : Int)).toNat = l.length := by omega
  rw [e1]
  have e2 : (l ++ 32 :: m).take (l.length + 0) = l := by simp
  have e3 : (l ++ 32 :: m).drop (l.length + ([32] : Bs).length) = m := by simp
  rw [e2, e3]
theorem split_none (l : Bs) (h : ∀ c ∈ l, is32 c = false) : spl l = [l] := by
  have hc : Lib.count l [32] = 0 := by
    rw [Lib.count_one]
    exact List.count_eq_zero.2 (fun hm => by have := h 32 hm; simp [is32] at this)
  unfold spl Lib.split
  rw [hc]
  rfl
theorem first_is : ∀ (t : Bs), (∀ c ∈ t, is32 c = false) ∨ ∃ l m, t = l ++ 32 :: m ∧ ∀ c ∈ l, is32 c = false
  | [] => .inl (by simp)
  | b :: t => by
    by_cases hb : b = 32
    · exact .inr ⟨[], t, by rw [hb]; rfl, by simp⟩
    · rcases first_is t with h | ⟨l, m, rfl, h⟩
      · exact .inl (fun c hc => by rcases List.mem_cons.1 hc with rfl | hc; simp [is32, hb]; exact h c hc)
      · exact .inr ⟨b :: l, m, rfl, fun c hc => by rcases List.mem_cons.1 hc with rfl | hc; simp [is32, hb]; exact h c hc⟩
theorem spl_pieces : ∀ (n : Nat) (t : Bs), t.length ≤ n → spl t = pieces is32 t := by
  intro n
  induction n with
  | zero =>
    intro t ht
    have : t = [] := List.eq_nil_of_length_eq_zero (by omega)
    subst this
    rw [split_none [] (by simp), pieces_none is32 [] (by simp)]
  | succ n ih =>
    intro t ht
    rcases first_is t with h | ⟨l, m, rfl, h⟩
    · rw [split_none t h, pieces_none is32 t h]
    · rw [split_piece l m h, pieces_hit is32 l m 32 rfl, pieces_none is32 l h, ih m (by simp at ht; omega)]
      rfl
end Nb
set_option maxHeartbeats 4000000 in
set_option maxRecDepth 100000 in
theorem rsplit_pieces (s : ByteArray) (w : World) (hs : s.size < 100000) :
    Calls Tryz.prog 61 #[.string s] w fun e w' => ∃ v, e = .returned v ∧ Txs w.heap.size w' v (pieces is32 s.data.toList) ∧ Below w.heap.size w w' := by
  have hl := size_list s
  go_enter Tryz.func61, Tryz.ntmps61
  go_wp2_with fail
  go_loopw [3, 4] (fun v i wr => ∃ k : Nat, k ≤ s.size ∧ i = .int .i64 k ∧ Txs w.heap.size wr v (pieces is32 (s.data.toList.take k)) ∧ Below w.heap.size w wr) (fun _ i _ => s.size - (RowKit.intOf i).toNat)
  case atStart =>
    refine ⟨0, Nat.zero_le _, rfl, ?_, (Below.refl _ _).alloc (Nat.le_refl _) _⟩
    have := World.ownsRow_lit (base := w.heap.size) (e := 9) (size := 1) w #[Value.string ⟨#[]⟩] 1 (Nat.le_refl _) (by decide) rfl
    exact this
  case round =>
    obtain ⟨k, hk, rfl, ho, hbel⟩ := hrel
    have hlen := pieces_length is32 (s.data.toList.take k)
    have htk : (s.data.toList.take k).length ≤ s.size := by simp; omega
    have hszw := hbel.size
    by_cases hlt : k < s.size
    · have hx : (k : Int) < (s.size : Int) := by omega
      have hx0 : (0 : Int) ≤ (k : Int) := by omega
      have hgl : s.data.toList[k]'(by omega) = s[k]'hlt := by rw [← get_list s k hlt]; exact get_at s k hlt
      have hsn : s.data.toList.take (k + 1) = s.data.toList.take k ++ [s[k]'hlt] := by rw [List.take_succ_eq_append_getElem (by omega), hgl]
      have HBEL := Lib.hid hbel
      cases hb : is32 (s[k]'hlt) with
      | true =>
        have h32 : (((s[k]'hlt).toNat : Int) == 32) = true := by
          have : s[k]'hlt = 32 := by simpa [is32] using hb
          rw [this]
          rfl
        have HW : Hid (pieces is32 (s.data.toList.take (k + 1)) = pieces is32 (s.data.toList.take k) ++ [[]]) := Lib.hid (by
          rw [hsn]
          unfold pieces
          rw [sp_hit is32 _ _ hb])
        clear hgl hb hsn hbel
        go_wp2_with (at_builtin; refine app_text rfl (.tmp 16) (.tmp 17) rfl w.heap.size _ _ [] rfl rfl ho hszw (by omega) ?_; intro v' w2 h8 h9 h10)
        go_roundw
        case rel => exact ⟨k + 1, by omega, by go_num, by rw [HW.out]; exact h8, HBEL.out.trans h9⟩
        case measure => simp [RowKit.intOf]; omega
      | false =>
        have h32 : (((s[k]'hlt).toNat : Int) == 32) = false := by
          have : s[k]'hlt ≠ 32 := by simpa [is32] using hb
          simp only [beq_eq_false_iff_ne]
          intro e
          refine this (UInt8.toNat_inj.1 ?_)
          have : (32 : UInt8).toNat = 32 := rfl
          omega
        have HW : Hid (pieces is32 (s.data.toList.take (k + 1)) = (sp is32 (s.data.toList.take k)).1 ++ [(sp is32 (s.data.toList.take k)).2 ++ [s[k]'hlt]]) := Lib.hid (by
          rw [hsn]
          unfold pieces
          rw [sp_miss is32 _ _ hb])
        have hsl := bs_extract s k (k + 1)
        rw [show (s.data.toList.take (k + 1)).drop k = [s[k]'hlt] by rw [hsn, List.drop_append_of_le_length (by simp; omega), List.drop_of_length_le (by simp; omega)]; rfl] at hsl
        have hcz : (sp is32 (s.data.toList.take k)).2.length ≤ s.size := by have := sp_sum is32 (s.data.toList.take k); omega
        obtain ⟨g, cap, rfl, p1, p2, p3, p4, p5, p6, p7⟩ := Txs.last ho
        have HS := Lib.hid p7
        have hn0 := sp_length is32 (s.data.toList.take k)
        generalize (sp is32 (s.data.toList.take k)).1 = ls at *
        generalize (sp is32 (s.data.toList.take k)).2 = cur at *
        generalize ls.length = n at *
        have hw1 : (n : Int) + 1 - 1 = (n : Int) := by omega
        have hw2 : IntKind.i64.wrap (n : Int) = (n : Int) := by rw [IntWalk.i64_in _ (by omega)]
        have hw3 : (n : Int) < (n : Int) + 1 := by omega
        have hw4 : (0 : Int) ≤ (n : Int) := by omega
        have o1 : bs cur ++ bs [s[k]'hlt] = bs (cur ++ [s[k]'hlt]) := bs_append _ _
        have o2 : ¬ (9223372036854775807 < (bs cur).size + (bs [s[k]'hlt]).size) := by rw [bs_size, bs_size]; simp; omega
        have HKK := Lib.hid hk
        clear hgl hb hsn hbel ho p7 hlen
        go_wp2_with fail
        refine wp_region_quiet_tail 16 (by kernel_rfl) (by kernel_rfl) ?_
        simp only [List.take_succ_cons, List.take_zero, List.drop_succ_cons, List.drop_zero]
        repeat (go_big_quiet_step (fail))
        refine wpQuiet_nil ?_
        go_wp2_with fail
        go_roundw
        case rel =>
          refine ⟨k + 1, by omega, by go_num, ?_, (HBEL.out.setCell p1 _).drew⟩
          rw [HW.out]
          exact (HS.out _).keep (fun _ _ _ => rfl)
        case measure => simp [RowKit.intOf]; omega
    · obtain rfl : k = s.size := by omega
      have hi : ¬ (s.size : Int) < (s.size : Int) := by omega
      rw [List.take_of_length_le (by omega)] at ho
      have HO := Lib.hid ho
      have HBEL := Lib.hid hbel
      clear ho hbel
      go_wp2_with fail
      go_ret
      exact ⟨_, rfl, HO.out, HBEL.out⟩
theorem txs_own {base : Nat} {w : World} {v : Value} {l : List Bs} (h : Txs base w v l) : OwnC 9 1 txF base w v l := by
  have e : ∀ l : List Bs, l.flatMap txF = l.map vs := fun l => by
    induction l with
    | nil => rfl
    | cons a l ih => rw [List.flatMap_cons, ih, List.map_cons]; rfl
  unfold OwnC
  rw [e l]
  exact h
theorem rsplit_any (t : Bs) (w : World) (ht : t.length ≤ 1000) : Calls Tryz.prog 61 #[vs t] w fun e w' => ∃ v, e = .returned v ∧ OwnC 9 1 txF w.heap.size w' v (spl t) ∧ Below w.heap.size w w' := by
  refine (rsplit_pieces (bs t) w (by rw [bs_size]; omega)).mono ?_
  rintro e w' ⟨v, rfl, h1, h2⟩
  rw [bs_list, ← spl_pieces t.length t (Nat.le_refl _)] at h1
  exact ⟨v, rfl, txs_own h1, h2⟩
end Go.Proofs.YtjmmfihmamcopaaGreatDoor
namespace Go.Proofs.YtjmmfihmamcopaaGreatDoor
open Go.RowKit Tx Nb

set_option maxRecDepth 100000 in
set_option maxHeartbeats 4000000 in
theorem rfind_any {w : World} (vl vh vc vb : Value) (l : List Lab) (k : Bs) (hr : RowC 3 labF w w.heap.size vl l) (_hn : l.length < 1000000) :
    Calls Tryz.prog 62 #[.agg #[vl, vh, vc, vb], vs k] w fun e w' => e = .returned (foundV l k) ∧ Below w.heap.size w w' := by
  obtain ⟨A, c, rfl, h1, h2, h3⟩ := hr.shape
  have HC := Lib.hid h3
  obtain ⟨W, hW⟩ : ∃ W, W = (w.alloc (.cells #[.slice A l.length c, vh, vc, vb] 46)).alloc (.cells #[.string ⟨#[]⟩, .string ⟨#[]⟩, .int .i64 0] 85) := ⟨_, rfl⟩
  have hb0 : Below w.heap.size w W := by rw [hW]; exact ((Below.refl _ _).alloc (Nat.le_refl _) _).alloc (by simp) _
  have hs0 : W.heap[w.heap.size]? = some (.cells #[.slice A l.length c, vh, vc, vb] 46 (0, 0)) := by
    rw [hW, Below.heap_alloc _ _ _ (by simp)]
    exact heap_alloc_new w _
  have hz : W.heap[w.heap.size + 1]? = some (.cells #[.string ⟨#[]⟩, .string ⟨#[]⟩, .int .i64 0] 85 (0, 0)) := by
    rw [hW]
    have := heap_alloc_new (w.alloc (.cells #[.slice A l.length c, vh, vc, vb] 46)) (.cells #[.string ⟨#[]⟩, .string ⟨#[]⟩, .int .i64 0] 85)
    simpa using this
  have HB0 := Lib.hid hb0
  have HZ := Lib.hid hz
  have HW := Lib.hid hW
  have y0 : W.cell? ⟨w.heap.size, 0, none⟩ = some (.slice A l.length c) := by rw [Lib.cell_of_heap hs0]; rfl
  obtain ⟨d0, d1, d2, f0, f1, f2⟩ := cells3 hz
  clear hr h3 hb0 hz hs0
  go_enter Tryz.func62, Tryz.ntmps62
  go_upto_block 0 with fail
  rw [← HW.out]
  clear hW
  go_wp2_with fail
  go_loopw [6] (fun i wr => ∃ j : Nat, j ≤ l.length ∧ i = .int .i64 j ∧ ((l.take j).any fun x => x.key == k) = false ∧ wr = W) (fun i _ => l.length - (RowKit.intOf i).toNat)
  case atStart => exact ⟨0, Nat.zero_le _, rfl, rfl, rfl⟩
  case round =>
    obtain ⟨j, hj, rfl, hno, hwr⟩ := hrel
    subst hwr
    have HNO := Lib.hid hno
    by_cases hjt : j < l.length
    · have hi : (j : Int) < (l.length : Int) := by omega
      have hi0 : (0 : Int) ≤ (j : Int) := by omega
      obtain ⟨b, off, rfl, hbl, hc⟩ := HC.out (by intro e; rw [e] at hjt; simp at hjt)
      have c0 : wr.cell? ⟨b, off + j * 3, none⟩ = some (vs l[j].key) := (HB0.out.cell (p := ⟨b, off + j * 3, none⟩) hbl).trans (hc j hjt 0 _ rfl)
      have c1 : wr.cell? ⟨b, off + j * 3 + 1, none⟩ = some (vs l[j].num) := (HB0.out.cell (p := ⟨b, off + j * 3 + 1, none⟩) hbl).trans (hc j hjt 1 _ rfl)
      have c2 : wr.cell? ⟨b, off + j * 3 + 2, none⟩ = some (.int .i64 l[j].page) := (HB0.out.cell (p := ⟨b, off + j * 3 + 2, none⟩) hbl).trans (hc j hjt 2 _ rfl)
      have HF := Lib.hid (fun h2 => find_at (k := k) hjt hno h2)
      have HT : Hid (l.take (j + 1) = l.take j ++ [l[j]]) := Lib.hid (List.take_succ_eq_append_getElem hjt)
      generalize l[j] = x at *
      clear hc hno
      by_cases hk : x.key = k
      · have he : ((bs x.key).toList == (bs k).toList) = true := by rw [bs_beq]; simp [hk]
        have HFX := Lib.hid (HF.out (by simp [hk]))
        clear hk
        go_wp2_with fail
        have hg2 := set3_same (x := .string (bs x.key)) (y := .string (bs x.num)) (z := .int .i64 x.page) HZ.out
        obtain ⟨d0, d1, d2, _, _, _⟩ := cells3 hg2
        refine bodyPost_ret (v := .tuple #[.agg #[.string (bs x.key), .string (bs x.num), .int .i64 x.page], .bool true]) (by
          simp [results, Tryz.f62, go_sem, d0, d1, d2]) rfl ⟨?_, set3_below HB0.out (by simp) _ _ _⟩
        unfold foundV
        rw [HFX.out]
      · have he : ((bs x.key).toList == (bs k).toList) = false := by rw [bs_beq]; simp [hk]
        have HK : Hid ((x.key == k) = false) := Lib.hid (by simp [hk])
        clear hk
        go_wp2_with fail
        go_roundw
        case rel => exact ⟨j + 1, by omega, by go_num, by rw [HT.out, List.any_append, HNO.out]; simp [HK.out], trivial⟩
        case measure => simp [RowKit.intOf]; omega
    · obtain rfl : j = l.length := by omega
      have hi : ¬ (l.length : Int) < (l.length : Int) := by omega
      have HNN := Lib.hid (find_none (l := l) (k := k) (by rw [List.take_length] at hno; exact hno))
      clear hno
      go_wp2_with fail
      have hg2 := set3_same (x := .string ⟨#[]⟩) (y := .string ⟨#[]⟩) (z := .int .i64 0) HZ.out
      obtain ⟨d0, d1, d2, _, _, _⟩ := cells3 hg2
      refine bodyPost_ret (v := .tuple #[.agg #[.string ⟨#[]⟩, .string ⟨#[]⟩, .int .i64 0], .bool false]) (by
        simp [results, Tryz.f62, go_sem, d0, d1, d2]) rfl ⟨?_, set3_below HB0.out (by simp) _ _ _⟩
      unfold foundV
      rw [HNN.out]
      rfl
end Go.Proofs.YtjmmfihmamcopaaGreatDoor
namespace Go.Proofs.YtjmmfihmamcopaaGreatDoor
open Go.RowKit Tx Nb

theorem rlInfo0 : (Tryz.prog.info? 85).map (fun i => (i.zero, i.size, i.bytes)) = some (some (.agg #[.string ⟨#[]⟩, .string ⟨#[]⟩, .int .i64 0]), 3, 40) := by kernel_rfl
theorem rnote_below {B wb : Nat} {w0 w : World} {k : RCst} {s : St} (h : Ri B w0 w wb k s) (e : Int) (t : Bs) (hn : s.notes.length < 1000000) (wx : World) (hb : Below w.heap.size w wx) :
    Calls Tryz.prog 41 #[.pointer (some ⟨wb, 0, none⟩), .int .i64 e, vs t] wx fun e' w' => e' = .returned (.tuple #[]) ∧ Ri B w0 w' wb k (Nb.note s e t) := rnote_any (h.below hb) e t hn
section
variable {B wb : Nat} {w0 w : World} {k : RCst} {s : St}
set_option maxRecDepth 100000 in
set_option maxHeartbeats 16000000 in
theorem rlabel_any (h : Ri B w0 w wb k s) (T : Nat) (hT : T ≤ 900000) (hd : Bd s T) (t : Bs) :
    Calls Tryz.prog 38 #[.pointer (some ⟨wb, 0, none⟩), vs t] w fun e' w' => e' = .returned (.tuple #[]) ∧ Ri B w0 w' wb k (Nb.label s t) := by
  have HS := Lib.hid h
  have HN1 := Lib.hid (rnote_below h 12 t (by have := hd.nt; omega))
  have HN2 := Lib.hid (rnote_below h 3 t (by have := hd.nt; omega))
  obtain ⟨v, hw⟩ := h
  have HW := Lib.hid hw
  have y1 : w.cell? ⟨wb, 1, none⟩ = some (v 1) := hw.cell 1
  have y2 : w.cell? ⟨wb, 2, none⟩ = some (v 2) := hw.cell 2
  have y3 : w.cell? ⟨wb, 3, none⟩ = some (v 3) := hw.cell 3
  have y4 : w.cell? ⟨wb, 4, none⟩ = some (v 4) := hw.cell 4
  have ho : OwnC 85 3 labF B w (v 1) s.labels := hw.ow.own 1 (by omega)
  obtain ⟨A1, c1, hv1⟩ : ∃ A c, v 1 = .slice A s.labels.length c := own_slice ho
  have hlb := hd.lb
  have hla := hd.la
  have hwo := hd.wo
  have HFD := Lib.hid (rfind_any (v 1) (v 2) (v 3) (v 4) s.labels t (ho.rowC labF_len) (by omega))
  have HV1 := Lib.hid hv1
  cases hf : find s.labels t with
  | some x =>
    have hfv : foundV s.labels t = .tuple #[.agg #[vs x.key, vs x.num, .int .i64 x.page], .bool true] := by unfold foundV; rw [hf]
    rw [hfv] at HFD
    have HR : Hid (Nb.label s t = Nb.note s 12 t) := Lib.hid (by unfold Nb.label; rw [hf]; rfl)
    clear hf hfv hw hd ho hv1
    go_enter Tryz.func38, Tryz.ntmps38
    go_wp2_with fail
    refine HFD.out.mono ?_
    rintro e w1 ⟨rfl, b1⟩
    have HB1 := Lib.hid b1
    clear b1 y1 y2 y3 y4
    go_wp2_with fail
    refine (HN1.out _ (HB1.out.alloc HB1.out.size _)).mono ?_
    rintro e w2 ⟨rfl, H2⟩
    have HI2 := Lib.hid H2
    clear H2
    go_wp2_with fail
    refine bodyPost_ret (results_none rfl _ _ _) rfl ?_
    exact ⟨rfl, by rw [HR.out]; exact HI2.out⟩
  | none =>
    have hfv : foundV s.labels t = .tuple #[.agg #[vs [], vs [], .int .i64 0], .bool false] := by unfold foundV; rw [hf]
    rw [hfv] at HFD
    have HWB := Lib.hid (fun (w1 : World) (b : Below w.heap.size w w1) (o : Obj) => (hw.below (b.alloc b.size o) : Rk B w0 (w1.alloc o) wb k v (12 + s.blocks.length) (rdesc s v) s.c))
    by_cases h100 : 100 ≤ s.labels.length
    · have h1i : (100 : Int) ≤ (s.labels.length : Int) := by omega
      have HR : Hid (Nb.label s t = Nb.note s 3 t) := Lib.hid (by unfold Nb.label; rw [hf, if_pos h100]; rfl)
      clear hf hfv hw hd ho h100 hv1
      go_enter Tryz.func38, Tryz.ntmps38
      go_wp2_with fail
      refine HFD.out.mono ?_
      rintro e w1 ⟨rfl, b1⟩
      have HB1 := Lib.hid b1
      have z1 : (w1.alloc (.cells #[.string (bs []), .string (bs []), .int .i64 0] 85)).cell? ⟨wb, 1, none⟩ = some (.slice A1 s.labels.length c1) := ((HWB.out w1 b1 _).cell 1).trans (by rw [← HV1.out]; rfl)
      clear b1 y1 y2 y3 y4
      go_wp2_with fail
      refine (HN2.out _ (HB1.out.alloc HB1.out.size _)).mono ?_
      rintro e w2 ⟨rfl, H2⟩
      have HI2 := Lib.hid H2
      clear H2
      go_wp2_with fail
      refine bodyPost_ret (results_none rfl _ _ _) rfl ?_
      exact ⟨rfl, by rw [HR.out]; exact HI2.out⟩
    · have h1i : ¬ ((100 : Int) ≤ (s.labels.length : Int)) := by omega
      have HR : Hid (Nb.label s t = { s with labels := s.labels ++ [⟨t, s.c.last, 0⟩], la := s.la ++ [here s] }) := Lib.hid (by unfold Nb.label; rw [hf, if_neg h100]; rfl)
      clear hf hfv hw hd ho h100 hv1
      go_enter Tryz.func38, Tryz.ntmps38
      go_wp2_with fail
      refine HFD.out.mono ?_
      rintro e w1 ⟨rfl, b1⟩
      obtain ⟨W, hW⟩ : ∃ W, W = w1.alloc (.cells #[.string (bs []), .string (bs []), .int .i64 0] 85) := ⟨_, rfl⟩
      have hWk := HWB.out w1 b1 (.cells #[.string (bs []), .string (bs []), .int .i64 0] 85)
      rw [← hW] at hWk
      have z1 : W.cell? ⟨wb, 1, none⟩ = some (.slice A1 s.labels.length c1) := (hWk.cell 1).trans (by rw [← HV1.out]; rfl)
      have z22 : W.cell? ⟨wb, 21, none⟩ = some (vs s.c.last) := hWk.cell 21
      have HK := Lib.hid hWk
      have HWE := Lib.hid hW
      rw [hW] at z1 z22
      clear b1 y1 y2 y3 y4 hWk hW
      go_upto_region 5 with fail
      rw [← HWE.out] at z1 z22 ⊢
      obtain ⟨i0, hi0, hz0, hz1, hz2⟩ := info_parts rlInfo0
      have hbd : Below W.heap.size W (W.drew.alloc (.cells #[vs t, vs s.c.last, .int .i64 0] 85)) := ((Below.refl W.heap.size W).drew).alloc (Nat.le_refl _) _
      have hW1 := HK.out.below hbd
      have HW1 := Lib.hid hW1
      have HD := Lib.hid (heap_alloc_new W.drew (.cells #[vs t, vs s.c.last, .int .i64 0] 85))
      have hS0 : (fun wz : World => wz.cell? ⟨wb, 1, none⟩ = some (.slice A1 s.labels.length c1) ∧ wz.cell? ⟨wb, 21, none⟩ = some (vs s.c.last)) W.drew := ⟨z1, z22⟩
      have hS1 : (fun wz : World => wz.cell? ⟨wb, 1, none⟩ = some (.slice A1 s.labels.length c1) ∧ wz.cell? ⟨wb, 21, none⟩ = some (vs s.c.last)) (W.drew.alloc (.cells #[vs t, vs s.c.last, .int .i64 0] 85)) := ⟨(hW1.cell 1).trans (by rw [← HV1.out]; rfl), hW1.cell 21⟩
      clear hW1 hbd
      refine wp_region_headS 15 (fun wz : World => wz.cell? ⟨wb, 1, none⟩ = some (.slice A1 s.labels.length c1) ∧ wz.cell? ⟨wb, 21, none⟩ = some (vs s.c.last)) (by kernel_rfl) (by kernel_rfl) ?_
      refine WS_take (i := 0) (v := ?va0) (by simp only [List.getElem?_toArray, List.getElem?_cons_zero]; rfl) (by decide) (by kernel_rfl) (by kernel_rfl) (by intro _ _ _ h; exact h) (Or.inl ⟨by rfl, ?hya0⟩) hS0 ?resta0
      case hya0 =>
        intro wx hx
        obtain ⟨s1, s2⟩ := hx
        go_simp
        try with_reducible rfl
      try simp only [Act.put, List.setIfInBounds_toArray, List.set_cons_zero, List.set_cons_succ]
      refine WS_take (i := 1) (v := ?va1) (by simp only [List.getElem?_toArray, List.getElem?_cons_succ, List.getElem?_cons_zero]; rfl) (by decide) (by kernel_rfl) (by kernel_rfl) (by intro _ _ _ h; exact h) (Or.inl ⟨by rfl, ?hya1⟩) hS0 ?resta1
      case hya1 =>
        intro wx hx
        obtain ⟨s1, s2⟩ := hx
        go_simp
        try with_reducible rfl
      try simp only [Act.put, List.setIfInBounds_toArray, List.set_cons_zero, List.set_cons_succ]
      refine WS_take (i := 2) (v := ?va2) (by simp only [List.getElem?_toArray, List.getElem?_cons_succ, List.getElem?_cons_zero]; rfl) (by decide) (by kernel_rfl) (by kernel_rfl) (by intro _ _ _ h; exact h) (Or.inl ⟨by rfl, ?hya2⟩) hS0 ?resta2
      case hya2 =>
        intro wx hx
        obtain ⟨s1, s2⟩ := hx
        go_simp
        try with_reducible rfl
      try simp only [Act.put, List.setIfInBounds_toArray, List.set_cons_zero, List.set_cons_succ]
      refine WS_take (i := 3) (v := ?va3) (by simp only [List.getElem?_toArray, List.getElem?_cons_succ, List.getElem?_cons_zero]; rfl) (by decide) (by kernel_rfl) (by kernel_rfl) (by intro _ _ _ h; exact h) (Or.inl ⟨by rfl, ?hya3⟩) hS0 ?resta3
      case hya3 =>
        intro wx hx
        obtain ⟨s1, s2⟩ := hx
        go_simp
        try with_reducible rfl
      try simp only [Act.put, List.setIfInBounds_toArray, List.set_cons_zero, List.set_cons_succ]
      refine WS_take (i := 4) (v := ?va4) (by simp only [List.getElem?_toArray, List.getElem?_cons_succ, List.getElem?_cons_zero]; rfl) (by decide) (by kernel_rfl) (by kernel_rfl) (by intro _ _ _ h; exact h) (Or.inl ⟨by rfl, ?hya4⟩) hS0 ?resta4
      case hya4 =>
        intro wx hx
        obtain ⟨s1, s2⟩ := hx
        go_simp
        try with_reducible rfl
      try simp only [Act.put, List.setIfInBounds_toArray, List.set_cons_zero, List.set_cons_succ]
      refine WS_take (i := 5) (v := ?va5) (by simp only [List.getElem?_toArray, List.getElem?_cons_succ, List.getElem?_cons_zero]; rfl) (by decide) (by kernel_rfl) (by kernel_rfl) (by intro _ _ _ h; exact h) (Or.inl ⟨by rfl, ?hya5⟩) hS0 ?resta5
      case hya5 =>
        intro wx hx
        obtain ⟨s1, s2⟩ := hx
        go_simp
        try with_reducible rfl
      try simp only [Act.put, List.setIfInBounds_toArray, List.set_cons_zero, List.set_cons_succ]
      refine WS_take (i := 6) (v := ?va6) (by simp only [List.getElem?_toArray, List.getElem?_cons_succ, List.getElem?_cons_zero]; rfl) (by decide) (by kernel_rfl) (by kernel_rfl) (by intro _ _ _ h; exact h) (Or.inl ⟨by rfl, ?hya6⟩) hS0 ?resta6
      case hya6 =>
        intro wx hx
        obtain ⟨s1, s2⟩ := hx
        go_simp
        try with_reducible rfl
      try simp only [Act.put, List.setIfInBounds_toArray, List.set_cons_zero, List.set_cons_succ]
      refine WS_take (i := 7) (v := ?va7) (by simp only [List.getElem?_toArray, List.getElem?_cons_succ, List.getElem?_cons_zero]; rfl) (by decide) (by kernel_rfl) (by kernel_rfl) (by intro _ _ _ h; exact h) (Or.inl ⟨by rfl, ?hya7⟩) hS0 ?resta7
      case hya7 =>
        intro wx hx
        obtain ⟨s1, s2⟩ := hx
        go_simp
        try with_reducible rfl
      try simp only [Act.put, List.setIfInBounds_toArray, List.set_cons_zero, List.set_cons_succ]
      refine WS_take (i := 8) (v := ?va8) (by simp only [List.getElem?_toArray, List.getElem?_cons_succ, List.getElem?_cons_zero]; rfl) (by decide) (by kernel_rfl) (by kernel_rfl) (by intro _ _ _ h; exact h) (Or.inl ⟨by rfl, ?hya8⟩) hS0 ?resta8
      case hya8 =>
        intro wx hx
        obtain ⟨s1, s2⟩ := hx
        go_simp
        try with_reducible rfl
      try simp only [Act.put, List.setIfInBounds_toArray, List.set_cons_zero, List.set_cons_succ]
      refine WS_take (i := 9) (v := ?va9) (by simp only [List.getElem?_toArray, List.getElem?_cons_succ, List.getElem?_cons_zero]; rfl) (by decide) (by kernel_rfl) (by kernel_rfl) (by intro _ _ _ h; exact h) (Or.inl ⟨by rfl, ?hya9⟩) hS0 ?resta9
      case hya9 =>
        intro wx hx
        obtain ⟨s1, s2⟩ := hx
        go_simp
        try with_reducible rfl
      try simp only [Act.put, List.setIfInBounds_toArray, List.set_cons_zero, List.set_cons_succ]
      refine WS_take (i := 10) (v := ?va10) (by simp only [List.getElem?_toArray, List.getElem?_cons_succ, List.getElem?_cons_zero]; rfl) (by decide) (by kernel_rfl) (by kernel_rfl) (by intro _ _ _ h; exact h) (Or.inl ⟨by rfl, ?hya10⟩) hS0 ?resta10
      case hya10 =>
        intro wx hx
        obtain ⟨s1, s2⟩ := hx
        go_simp
        try with_reducible rfl
      try simp only [Act.put, List.setIfInBounds_toArray, List.set_cons_zero, List.set_cons_succ]
      refine WS_take (i := 11) (v := ?va11) (by simp only [List.getElem?_toArray, List.getElem?_cons_succ, List.getElem?_cons_zero]; rfl) (by decide) (by kernel_rfl) (by kernel_rfl) (by intro _ _ _ h; exact h) (Or.inl ⟨by rfl, ?hya11⟩) hS0 ?resta11
      case hya11 =>
        intro wx hx
        obtain ⟨s1, s2⟩ := hx
        go_simp
        try with_reducible rfl
      try simp only [Act.put, List.setIfInBounds_toArray, List.set_cons_zero, List.set_cons_succ]
      refine WS_take (i := 12) (v := ?va12) (by simp only [List.getElem?_toArray, List.getElem?_cons_succ, List.getElem?_cons_zero]; rfl) (by decide) (by kernel_rfl) (by kernel_rfl) (by intro _ _ _ h; exact h) (Or.inl ⟨by rfl, ?hya12⟩) hS0 ?resta12
      case hya12 =>
        intro wx hx
        obtain ⟨s1, s2⟩ := hx
        go_simp
        try with_reducible rfl
      try simp only [Act.put, List.setIfInBounds_toArray, List.set_cons_zero, List.set_cons_succ]
      refine WS_one (i := 13) (by simp only [List.getElem?_toArray, List.getElem?_cons_succ, List.getElem?_cons_zero]; rfl) (by decide) (by kernel_rfl) (fun K hK => (if_pos (by kernel_rfl)).mpr ?_)
      go_simp
      refine hK _ _ hS1 ?_
      clear hK K
      try simp only [Act.put, List.setIfInBounds_toArray, List.set_cons_zero, List.set_cons_succ]
      refine WS_one (i := 14) (by simp only [List.getElem?_toArray, List.getElem?_cons_succ, List.getElem?_cons_zero]; rfl) (by decide) (by kernel_rfl) (fun K hK => step_appB (by rfl) (.tmp 37) (.tmp 44) 43 (by rfl) B 85 i0 _ 3 40 Tryz.underlying43 hi0 hz0 hz1 hz2 (by rfl) (by decide) (.slice A1 s.labels.length c1) s.labels.length (s.labels.flatMap labF) (labF ⟨t, s.c.last, 0⟩) rfl (by simp [labF, Value.oneCell']) (by rfl) W.drew.heap.size (by rfl) HD.out (HV1.out ▸ HW1.out.ow.own 1 (by omega)) HW1.out.hB (by simp only [maxLen]; omega) (by omega) ?_)
      intro v' w' h1 h2 h3
      obtain ⟨⟨A', c', hv'⟩, hc, hf, hI⟩ := HW1.out.push (s' := { s with labels := s.labels ++ [⟨t, s.c.last, 0⟩] }) 1 (p := 1) (by omega) rfl rfl rfl (fun j h1 h2 h3 => by rcases twelve_cases h3 with rfl | rfl | rfl | rfl | rfl | rfl | rfl | rfl | rfl | rfl | rfl | rfl <;> first | rfl | omega) (by simpa [Desc.Is, rdesc] using h1) (by rw [HV1.out]; exact h2) (by rw [HV1.out]; exact h3)
      obtain ⟨A', n', c', rfl⟩ : ∃ A n c, v' = .slice A n c := ⟨_, _, _, hv'⟩
      clear hv'
      have hS2 : (fun wz : World => wz.cell? ⟨wb, 1, none⟩ = some (.slice A1 s.labels.length c1) ∧ wz.cell? ⟨wb, 21, none⟩ = some (vs s.c.last)) w' := ⟨(hc 1).trans (by rw [← HV1.out]; rfl), hc 21⟩
      have ya := hc 1
      have yf := hf 1
      simp only [rcells, List.getElem?_cons_succ, List.getElem?_cons_zero] at ya
      have HIa := Lib.hid hI
      refine hK _ _ hS2 ?_
      clear hK K h1 h2 h3 hc hf hI hS2 hS0 hS1
      try simp only [Act.put, List.setIfInBounds_toArray, List.set_cons_zero, List.set_cons_succ]
      refine WS_done (by kernel_rfl) ?_
      simp only [List.drop_succ_cons, List.drop_zero]
      go_upto_region 6 with fail
      obtain ⟨WX, hWX⟩ : ∃ WX, WX = w'.setCell ⟨wb, 1, none⟩ (.slice A' n' c') := ⟨_, rfl⟩
      have hI1 := HIa.out
      rw [← hWX] at hI1 ⊢
      clear ya yf
      obtain ⟨v5, hw5⟩ := hI1
      obtain ⟨A5, c5, hv5⟩ : ∃ A c, v5 5 = .slice A s.la.length c := own_slice (hw5.ow.own 5 (by omega))
      have z5 : WX.cell? ⟨wb, 5, none⟩ = some (.slice A5 s.la.length c5) := (hw5.cell 5).trans (by rw [← hv5]; rfl)
      have HV5 := Lib.hid hv5
      have HK5 := Lib.hid hw5
      have HHE := Lib.hid (rhere_any (s := { s with labels := s.labels ++ [⟨t, s.c.last, 0⟩] }) (⟨v5, hw5.below ((Below.refl WX.heap.size WX).drew)⟩ : Ri B w0 WX.drew wb k { s with labels := s.labels ++ [⟨t, s.c.last, 0⟩] }) (by simp only; omega))
      have hbd : Below WX.heap.size WX (WX.drew.alloc (.cells #[.int .i64 (Nb.here s)] 3)) := ((Below.refl WX.heap.size WX).drew).alloc (Nat.le_refl _) _
      have hW1 := hw5.below hbd
      have HW2 := Lib.hid hW1
      have HD2 := Lib.hid (heap_alloc_new WX.drew (.cells #[.int .i64 (Nb.here s)] 3))
      have hS0 : (fun wz : World => wz.cell? ⟨wb, 5, none⟩ = some (.slice A5 s.la.length c5)) WX.drew := z5
      have hS1 : (fun wz : World => wz.cell? ⟨wb, 5, none⟩ = some (.slice A5 s.la.length c5)) (WX.drew.alloc (.cells #[.int .i64 (Nb.here s)] 3)) := (hW1.cell 5).trans (by rw [← hv5]; rfl)
      obtain ⟨i5, hi0, hz0, hz1, hz2⟩ := info_parts intInfo
      clear hW1 hbd hWX hv5 hw5 HIa HW1 HD HK
      refine wp_region_headS 10 (fun wz : World => wz.cell? ⟨wb, 5, none⟩ = some (.slice A5 s.la.length c5)) (by kernel_rfl) (by kernel_rfl) ?_
      refine WS_take (i := 0) (v := ?vb0) (by simp only [List.getElem?_toArray, List.getElem?_cons_zero]; rfl) (by decide) (by kernel_rfl) (by kernel_rfl) (by intro _ _ _ h; exact h) (Or.inl ⟨by rfl, ?hyb0⟩) hS0 ?restb0
      case hyb0 =>
        intro wx hx
        have s1 := hx
        go_simp
        try with_reducible rfl
      try simp only [Act.put, List.setIfInBounds_toArray, List.set_cons_zero, List.set_cons_succ]
      refine WS_take (i := 1) (v := ?vb1) (by simp only [List.getElem?_toArray, List.getElem?_cons_succ, List.getElem?_cons_zero]; rfl) (by decide) (by kernel_rfl) (by kernel_rfl) (by intro _ _ _ h; exact h) (Or.inl ⟨by rfl, ?hyb1⟩) hS0 ?restb1
      case hyb1 =>
        intro wx hx
        have s1 := hx
        go_simp
        try with_reducible rfl
      try simp only [Act.put, List.setIfInBounds_toArray, List.set_cons_zero, List.set_cons_succ]
      refine WS_take (i := 2) (v := ?vb2) (by simp only [List.getElem?_toArray, List.getElem?_cons_succ, List.getElem?_cons_zero]; rfl) (by decide) (by kernel_rfl) (by kernel_rfl) (by intro _ _ _ h; exact h) (Or.inl ⟨by rfl, ?hyb2⟩) hS0 ?restb2
      case hyb2 =>
        intro wx hx
        have s1 := hx
        go_simp
        try with_reducible rfl
      try simp only [Act.put, List.setIfInBounds_toArray, List.set_cons_zero, List.set_cons_succ]
      refine WS_take (i := 3) (v := ?vb3) (by simp only [List.getElem?_toArray, List.getElem?_cons_succ, List.getElem?_cons_zero]; rfl) (by decide) (by kernel_rfl) (by kernel_rfl) (by intro _ _ _ h; exact h) (Or.inl ⟨by rfl, ?hyb3⟩) hS0 ?restb3
      case hyb3 =>
        intro wx hx
        have s1 := hx
        go_simp
        try with_reducible rfl
      try simp only [Act.put, List.setIfInBounds_toArray, List.set_cons_zero, List.set_cons_succ]
      refine WS_take (i := 4) (v := ?vb4) (by simp only [List.getElem?_toArray, List.getElem?_cons_succ, List.getElem?_cons_zero]; rfl) (by decide) (by kernel_rfl) (by kernel_rfl) (by intro _ _ _ h; exact h) (Or.inl ⟨by rfl, ?hyb4⟩) hS0 ?restb4
      case hyb4 =>
        intro wx hx
        have s1 := hx
        go_simp
        try with_reducible rfl
      try simp only [Act.put, List.setIfInBounds_toArray, List.set_cons_zero, List.set_cons_succ]
      refine WS_take (i := 5) (v := ?vb5) (by simp only [List.getElem?_toArray, List.getElem?_cons_succ, List.getElem?_cons_zero]; rfl) (by decide) (by kernel_rfl) (by kernel_rfl) (by intro _ _ _ h; exact h) (Or.inl ⟨by rfl, ?hyb5⟩) hS0 ?restb5
      case hyb5 =>
        intro wx hx
        have s1 := hx
        go_simp
        try with_reducible rfl
      try simp only [Act.put, List.setIfInBounds_toArray, List.set_cons_zero, List.set_cons_succ]
      refine WS_take (i := 6) (v := ?vb6) (by simp only [List.getElem?_toArray, List.getElem?_cons_succ, List.getElem?_cons_zero]; rfl) (by decide) (by kernel_rfl) (by kernel_rfl) (by intro _ _ _ h; exact h) (Or.inl ⟨by rfl, ?hyb6⟩) hS0 ?restb6
      case hyb6 =>
        intro wx hx
        have s1 := hx
        go_simp
        try with_reducible rfl
      try simp only [Act.put, List.setIfInBounds_toArray, List.set_cons_zero, List.set_cons_succ]
      refine WS_one (i := 7) (by simp only [List.getElem?_toArray, List.getElem?_cons_succ, List.getElem?_cons_zero]; rfl) (by decide) (by kernel_rfl) (fun K hK => (if_pos (by kernel_rfl)).mpr ?_)
      go_simp
      refine HHE.out.mono ?_
      rintro e wq ⟨rfl, rfl⟩
      dsimp only
      refine hK _ _ hS0 ?_
      clear hK K
      try simp only [Act.put, List.setIfInBounds_toArray, List.set_cons_zero, List.set_cons_succ]
      refine WS_one (i := 8) (by simp only [List.getElem?_toArray, List.getElem?_cons_succ, List.getElem?_cons_zero]; rfl) (by decide) (by kernel_rfl) (fun K hK => (if_pos (by kernel_rfl)).mpr ?_)
      go_simp
      refine hK _ _ hS1 ?_
      clear hK K
      try simp only [Act.put, List.setIfInBounds_toArray, List.set_cons_zero, List.set_cons_succ]
      refine WS_one (i := 9) (by simp only [List.getElem?_toArray, List.getElem?_cons_succ, List.getElem?_cons_zero]; rfl) (by decide) (by kernel_rfl) (fun K hK => step_appB (by rfl) (.tmp 55) (.tmp 58) 37 (by rfl) B 3 i5 _ 1 8 Tryz.underlying37 hi0 hz0 hz1 hz2 (by rfl) (by decide) (.slice A5 s.la.length c5) s.la.length (s.la.flatMap inF) (inF (Nb.here s)) rfl (by simp [inF, Value.oneCell']) (by rfl) WX.drew.heap.size (by rfl) HD2.out (HV5.out ▸ HW2.out.ow.own 5 (by omega)) HW2.out.hB (by simp only [maxLen]; omega) (by omega) ?_)
      intro v' w' h1 h2 h3
      obtain ⟨⟨A', c', hv'⟩, hc, hf, hI⟩ := HW2.out.push (s' := { s with labels := s.labels ++ [⟨t, s.c.last, 0⟩], la := s.la ++ [Nb.here s] }) 5 (p := 5) (by omega) rfl rfl rfl (fun j h1 h2 h3 => by rcases twelve_cases h3 with rfl | rfl | rfl | rfl | rfl | rfl | rfl | rfl | rfl | rfl | rfl | rfl <;> first | rfl | omega) (by simpa [Desc.Is, rdesc] using h1) (by rw [HV5.out]; exact h2) (by rw [HV5.out]; exact h3)
      obtain ⟨A', n', c', rfl⟩ : ∃ A n c, v' = .slice A n c := ⟨_, _, _, hv'⟩
      clear hv'
      have hS2 : (fun wz : World => wz.cell? ⟨wb, 5, none⟩ = some (.slice A5 s.la.length c5)) w' := (hc 5).trans (by rw [← HV5.out]; rfl)
      have ya := hc 5
      have yf := hf 5
      simp only [rcells, List.getElem?_cons_succ, List.getElem?_cons_zero] at ya
      have HIb := Lib.hid hI
      refine hK _ _ hS2 ?_
      clear hK K h1 h2 h3 hc hf hI hS2 hS0 hS1
      try simp only [Act.put, List.setIfInBounds_toArray, List.set_cons_zero, List.set_cons_succ]
      refine WS_done (by kernel_rfl) ?_
      simp only [List.drop_succ_cons, List.drop_zero]
      go_wp2_with fail
      go_end0
      exact ⟨rfl, by rw [HR.out]; exact HIb.out⟩
end
end Go.Proofs.YtjmmfihmamcopaaGreatDoor
