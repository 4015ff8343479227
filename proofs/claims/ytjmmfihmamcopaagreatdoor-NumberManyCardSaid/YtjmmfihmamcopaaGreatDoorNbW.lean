/- The block of a work, and the lists that it owns. -/
import Derived.Test.YtjmmfihmamcopaaGreatDoorNbPl
import Derived.Test.YtjmmfihmamcopaaGreatDoorTxs
import Derived.Test.YtjmmfihmamcopaaGreatDoorShelf
namespace Go.Proofs.YtjmmfihmamcopaaGreatDoor
open Go.RowKit Tx Nb

def labF (x : Lab) : List Value := [vs x.key, vs x.num, .int .i64 x.page]
def hdF (x : Hd) : List Value := [.int .i64 x.level, vs x.num, vs x.title, .int .i64 x.page]
def ntF (x : Int × Bs) : List Value := [.int .i64 x.1, vs x.2]
def inF (x : Int) : List Value := [.int .i64 x]
def txF (x : Bs) : List Value := [vs x]
def ciF (x : Ci) : List Value := [vs x.key, vs x.label, vs x.text]
def itF (x : It) : List Value := [.int .i64 x.kind, vs x.s]
/-- The blocks' cells: block j's words lie in slice 10 + j. -/
def blF (v : Nat → Value) : Nat → List (Int × List Bs) → List Value
  | _, [] => []
  | j, b :: l => .int .i64 b.1 :: v j :: blF v (j + 1) l
theorem blF_len (v : Nat → Value) : ∀ (l : List (Int × List Bs)) (j : Nat), (blF v j l).length = l.length * 2
  | [], _ => rfl
  | b :: l, j => by simp only [blF, List.length_cons, blF_len v l]; omega
theorem blF_congr {v v' : Nat → Value} : ∀ (l : List (Int × List Bs)) (j : Nat), (∀ i, j ≤ i → i < j + l.length → v' i = v i) → blF v' j l = blF v j l
  | [], _, _ => rfl
  | b :: l, j, h => by
    simp only [blF]
    rw [h j (Nat.le_refl _) (by simp), blF_congr l (j + 1) (fun i h1 h2 => h i (by omega) (by simp only [List.length_cons]; omega))]
theorem blF_append (v : Nat → Value) : ∀ (l m : List (Int × List Bs)) (j : Nat), blF v j (l ++ m) = blF v j l ++ blF v (j + l.length) m
  | [], m, j => by simp [blF]
  | b :: l, m, j => by
    simp only [List.cons_append, blF, List.length_cons]
    rw [blF_append v l m (j + 1), show j + 1 + l.length = j + (l.length + 1) by omega]
theorem blF_at (v : Nat → Value) : ∀ (l : List (Int × List Bs)) (j i : Nat) (h : i < l.length), (blF v j l)[i * 2]? = some (.int .i64 l[i].1) ∧ (blF v j l)[i * 2 + 1]? = some (v (j + i))
  | b :: l, j, 0, _ => by simp [blF]
  | b :: l, j, i + 1, h => by
    have := blF_at v l (j + 1) i (by simpa using h)
    rw [show (i + 1) * 2 = i * 2 + 1 + 1 by omega, show i * 2 + 1 + 1 + 1 = i * 2 + 1 + 1 + 1 by rfl]
    simp only [blF, List.getElem?_cons_succ, List.getElem_cons_succ]
    rw [show j + (i + 1) = j + 1 + i by omega]
    exact this
def desc (s : St) (v : Nat → Value) : Nat → Desc
  | 0 => ⟨93, 2, s.blocks.length, blF v 10 s.blocks⟩
  | 1 => ⟨63, 3, s.labels.length, s.labels.flatMap labF⟩
  | 2 => ⟨65, 4, s.heads.length, s.heads.flatMap hdF⟩
  | 3 => ⟨9, 1, s.cites.length, s.cites.flatMap txF⟩
  | 4 => ⟨9, 1, s.bibs.length, s.bibs.flatMap txF⟩
  | 5 => ⟨3, 1, s.la.length, s.la.flatMap inF⟩
  | 6 => ⟨3, 1, s.ha.length, s.ha.flatMap inF⟩
  | 7 => ⟨3, 1, s.ia.length, s.ia.flatMap inF⟩
  | 8 => ⟨9, 1, s.index.length, s.index.flatMap txF⟩
  | 9 => ⟨92, 2, s.notes.length, s.notes.flatMap ntF⟩
  | j + 10 => ⟨9, 1, ((s.blocks[j]?.getD (0, [])).2).length, ((s.blocks[j]?.getD (0, [])).2).flatMap txF⟩
/-- What a work was given, and its map. -/
structure Cst where
  oL : Value
  oH : Value
  oC : Value
  oB : Value
  bbl : Value
  ind : Value
  mb : Nat
  res : List (Nat × Obj)
/-- The blocks that no list may lie in: the work's, the map's, and those that are set apart. -/
def Cst.X (k : Cst) (wb : Nat) : List Nat := wb :: k.mb :: k.res.map Prod.fst
theorem Cst.mem_wb (k : Cst) (wb : Nat) : wb ∈ k.X wb := by simp [Cst.X]
theorem Cst.mem_mb (k : Cst) (wb : Nat) : k.mb ∈ k.X wb := by simp [Cst.X]
theorem Cst.mem_res (k : Cst) (wb : Nat) {p : Nat × Obj} (h : p ∈ k.res) : p.1 ∈ k.X wb := by
  unfold Cst.X
  exact List.mem_cons_of_mem _ (List.mem_cons_of_mem _ (List.mem_map_of_mem h))
def wcells (v : Nat → Value) (k : Cst) (c : Sc) : List Value :=
  [v 0, v 1, v 2, v 3, v 4, v 5, v 6, v 7, v 8, v 9, k.oL, k.oH, k.oC, k.oB, k.bbl, k.ind, .bool c.flows, .bool c.op, .int .i64 c.words, .int .i64 c.sec, .int .i64 c.sub, .map (some k.mb), vs c.last]
def WBlk (v : Nat → Value) (k : Cst) (c : Sc) : Obj := .cells (wcells v k c).toArray 78 (0, 0)
structure Wk (B : Nat) (w0 w : World) (wb : Nat) (k : Cst) (v : Nat → Value) (N : Nat) (D : Nat → Desc) (c : Sc) (own : Cn) : Prop where
  hB : B ≤ w.heap.size
  bel : Below B w0 w
  wbB : B ≤ wb
  mbB : B ≤ k.mb
  ne : wb ≠ k.mb
  n10 : 10 ≤ N
  blk : w.heap[wb]? = some (WBlk v k c)
  ow : Ow B w (k.X wb) v N D
  map : MapN w 9 k.mb own
  res : ∀ p ∈ k.res, w.heap[p.1]? = some p.2 ∧ p.1 ≠ wb ∧ p.1 ≠ k.mb
section
variable {B N wb : Nat} {w0 w w' : World} {k : Cst} {v : Nat → Value} {D : Nat → Desc} {c : Sc} {own : Cn}
theorem Wk.lt (h : Wk B w0 w wb k v N D c own) : ∀ j ∈ k.X wb, j < w.heap.size := fun j hj => by
  simp only [Cst.X, List.mem_cons, List.mem_map] at hj
  rcases hj with rfl | rfl | ⟨p, hp, rfl⟩
  · exact lt_of_block h.blk
  · exact h.map.lt
  · exact lt_of_block (h.res p hp).1
theorem Wk.res_to (h : Wk B w0 w wb k v N D c own) (hk : ∀ p ∈ k.res, w'.heap[p.1]? = w.heap[p.1]?) : ∀ p ∈ k.res, w'.heap[p.1]? = some p.2 ∧ p.1 ≠ wb ∧ p.1 ≠ k.mb := fun p hp => ⟨(hk p hp).trans (h.res p hp).1, (h.res p hp).2⟩
theorem Wk.below (h : Wk B w0 w wb k v N D c own) (hb : Below w.heap.size w w') : Wk B w0 w' wb k v N D c own :=
  ⟨Nat.le_trans h.hB hb.size, h.bel.trans (hb.mono h.hB), h.wbB, h.mbB, h.ne, h.n10, (hb.block wb (h.lt wb (k.mem_wb wb))).trans h.blk, h.ow.same (fun j hj _ => hb.block j hj), h.map.keep (hb.block k.mb (h.lt k.mb (k.mem_mb wb))), h.res_to (fun p hp => hb.block p.1 (h.lt _ (k.mem_res wb hp)))⟩
theorem Wk.cell (h : Wk B w0 w wb k v N D c own) (i : Nat) : w.cell? ⟨wb, i, none⟩ = (wcells v k c)[i]? := by rw [Lib.cell_of_heap h.blk]; simp
theorem Wk.frozen (h : Wk B w0 w wb k v N D c own) (i : Nat) : w.frozen? ⟨wb, i, none⟩ = false := Lib.frozen_of_heap h.blk i
/-- One of the plain cells is set. -/
theorem Wk.set (h : Wk B w0 w wb k v N D c own) (i : Nat) (u : Value) (c' : Sc) (hu : (wcells v k c).set i u = wcells v k c') : Wk B w0 (w.setCell ⟨wb, i, none⟩ u) wb k v N D c' own := by
  have hoth : ∀ j, j ≠ wb → (w.setCell ⟨wb, i, none⟩ u).heap[j]? = w.heap[j]? := fun j hj => Below.heap_setCell _ _ _ _ (fun e => hj (by simpa using e))
  refine ⟨by rw [World.size_setCell]; exact h.hB, h.bel.setCell (p := ⟨wb, i, none⟩) h.wbB u, h.wbB, h.mbB, h.ne, h.n10, ?_, h.ow.same (fun j _ hj => hoth j (fun e => hj (by rw [e]; exact k.mem_wb wb))), h.map.keep (hoth _ (Ne.symm h.ne)), h.res_to (fun p hp => hoth p.1 (h.res p hp).2.1)⟩
  rw [cells_set h.blk, List.setIfInBounds_toArray, hu]
  rfl
/-- An append to slice i, and its store. -/
theorem Wk.app (h : Wk B w0 w wb k v N D c own) {i : Nat} (hi : i < 10) {v' : Value} {d' : Desc} (ho : d'.Is B w' v') (hg : w.grownBy w' (v i).ownBlock) (hb : ∀ j, v'.ownBlock = some j → (v i).ownBlock = some j ∨ w.heap.size ≤ j) :
    Wk B w0 (w'.setCell ⟨wb, i, none⟩ v') wb k (upd v i v') N (upd D i d') c own ∧ w'.heap[wb]? = some (WBlk v k c) := by
  have hN := h.n10
  have hwl := h.lt wb (k.mem_wb wb)
  have hwb : w'.heap[wb]? = some (WBlk v k c) := (hg.block wb hwl (fun e => h.ow.out i (by omega) wb e.symm (k.mem_wb wb))).trans h.blk
  have hmb : w'.heap[k.mb]? = w.heap[k.mb]? := hg.block k.mb (h.lt k.mb (k.mem_mb wb)) (fun e => h.ow.out i (by omega) k.mb e.symm (k.mem_mb wb))
  have hoth : ∀ j, j ≠ wb → (w'.setCell ⟨wb, i, none⟩ v').heap[j]? = w'.heap[j]? := fun j hj => Below.heap_setCell _ _ _ _ (fun e => hj (by simpa using e))
  have hbel : Below B w0 w' := h.bel.grown hg h.hB (fun j hj => (h.ow.lt (i := i) (by omega) j hj).1)
  refine ⟨⟨by rw [World.size_setCell]; exact Nat.le_trans h.hB hg.size, hbel.setCell (p := ⟨wb, i, none⟩) h.wbB v', h.wbB, h.mbB, h.ne, h.n10, ?_, ?_, h.map.keep ((hoth _ (Ne.symm h.ne)).trans hmb), h.res_to (fun p hp => (hoth p.1 (h.res p hp).2.1).trans (hg.block p.1 (h.lt _ (k.mem_res wb hp)) (fun e => h.ow.out i (by omega) p.1 e.symm (k.mem_res wb hp))))⟩, hwb⟩
  · rw [cells_set hwb, List.setIfInBounds_toArray]
    have : (wcells v k c).set i v' = wcells (upd v i v') k c := by
      rcases i with _ | _ | _ | _ | _ | _ | _ | _ | _ | _ | i <;> first | rfl | omega
    rw [this]
    rfl
  · refine h.ow.turn (by omega) h.lt (fun j hj h1 h2 => ?_) ?_ hb
    · rw [hoth j (fun e => h2 (by rw [e]; exact k.mem_wb wb))]
      exact hg.block j hj (fun e => h1 e.symm)
    · refine own_heap ho (fun j hj => hoth j ?_)
      rintro rfl
      rcases hb _ hj with h1 | h1
      · exact h.ow.out i (by omega) _ h1 (k.mem_wb _)
      · omega
end
/-- Block wb is a work in the state s. -/
def Is (B : Nat) (w0 w : World) (wb : Nat) (k : Cst) (s : St) : Prop := ∃ v, Wk B w0 w wb k v (10 + s.blocks.length) (desc s v) s.c s.own
theorem Is.below {B wb : Nat} {w0 w w' : World} {k : Cst} {s : St} (h : Is B w0 w wb k s) (hb : Below w.heap.size w w') : Is B w0 w' wb k s := by
  obtain ⟨v, h⟩ := h
  exact ⟨v, h.below hb⟩
/-- Other names for the same. -/
theorem Wk.is {B wb : Nat} {w0 w : World} {k : Cst} {v : Nat → Value} {N : Nat} {D : Nat → Desc} {s : St} (h : Wk B w0 w wb k v N D s.c s.own) (hN : N = 10 + s.blocks.length) (hD : ∀ i, i < N → D i = desc s v i) : Is B w0 w wb k s := by
  subst hN
  exact ⟨v, h.hB, h.bel, h.wbB, h.mbB, h.ne, h.n10, h.blk, h.ow.congr (fun _ _ => rfl) (fun i hi => (hD i hi).symm), h.map, h.res⟩
theorem ten_cases {i : Nat} (h : i < 10) : i = 0 ∨ i = 1 ∨ i = 2 ∨ i = 3 ∨ i = 4 ∨ i = 5 ∨ i = 6 ∨ i = 7 ∨ i = 8 ∨ i = 9 := by omega
/-- Behind an append to a list other than the blocks. -/
theorem desc_app {s s' : St} {v : Nat → Value} {i : Nat} {v' : Value} (h0 : 0 < i ∧ i < 10) (hb : s'.blocks = s.blocks) (ho : ∀ j, j ≠ i → 0 < j → j < 10 → desc s' v j = desc s v j) : ∀ j, upd (desc s v) i (desc s' v i) j = desc s' (upd v i v') j := by
  intro j
  have key : ∀ (t : St) (u u' : Nat → Value) (j : Nat), 0 < j → desc t u j = desc t u' j := fun t u u' j hj => by
    rcases j with _ | _ | _ | _ | _ | _ | _ | _ | _ | _ | j <;> first | rfl | omega
  have hbl : desc s' (upd v i v') 0 = desc s v 0 := by
    simp only [desc, hb]
    rw [blF_congr s.blocks 10 (fun l h1 _ => upd_ne v v' (by omega))]
  by_cases hji : j = i
  · subst hji
    rw [upd_at]
    exact key s' v _ j h0.1
  · rw [upd_ne _ _ hji]
    by_cases hj0 : j = 0
    · subst hj0
      exact hbl.symm
    · rw [key s' (upd v i v') v j (by omega)]
      by_cases hj10 : j < 10
      · exact (ho j hji (by omega) hj10).symm
      · obtain ⟨m, rfl⟩ : ∃ m, j = m + 10 := ⟨j - 10, by omega⟩
        simp only [desc, hb]
end Go.Proofs.YtjmmfihmamcopaaGreatDoor
