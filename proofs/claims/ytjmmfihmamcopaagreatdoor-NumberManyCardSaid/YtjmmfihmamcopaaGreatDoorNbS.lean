/- number: close, here, more. -/
import Derived.Test.YtjmmfihmamcopaaGreatDoorNbW2
import Derived.Test.YtjmmfihmamcopaaGreatDoorNbF
namespace Go.Proofs.YtjmmfihmamcopaaGreatDoor
open Go.RowKit Tx Nb

section
variable {B wb : Nat} {w0 w : World} {k : Cst} {s : St}
theorem Is.sc {c' : Sc} {i : Nat} {u : Value} (h : Is B w0 w wb k s) (hu : ∀ v, (wcells v k s.c).set i u = wcells v k c') : Is B w0 (w.setCell ⟨wb, i, none⟩ u) wb k { s with c := c' } := by
  obtain ⟨v, hw⟩ := h
  exact ⟨v, hw.set i u c' (hu v)⟩
theorem Is.flows (h : Is B w0 w wb k s) (b : Bool) : Is B w0 (w.setCell ⟨wb, 16, none⟩ (.bool b)) wb k { s with c := { s.c with flows := b } } := h.sc fun _ => rfl
theorem Is.op (h : Is B w0 w wb k s) (b : Bool) : Is B w0 (w.setCell ⟨wb, 17, none⟩ (.bool b)) wb k { s with c := { s.c with op := b } } := h.sc fun _ => rfl
theorem Is.words (h : Is B w0 w wb k s) (n : Nat) : Is B w0 (w.setCell ⟨wb, 18, none⟩ (.int .i64 n)) wb k { s with c := { s.c with words := n } } := h.sc fun _ => rfl
theorem Is.sec (h : Is B w0 w wb k s) (n : Nat) : Is B w0 (w.setCell ⟨wb, 19, none⟩ (.int .i64 n)) wb k { s with c := { s.c with sec := n } } := h.sc fun _ => rfl
theorem Is.sub (h : Is B w0 w wb k s) (n : Nat) : Is B w0 (w.setCell ⟨wb, 20, none⟩ (.int .i64 n)) wb k { s with c := { s.c with sub := n } } := h.sc fun _ => rfl
theorem Is.last (h : Is B w0 w wb k s) (t : Bs) : Is B w0 (w.setCell ⟨wb, 22, none⟩ (vs t)) wb k { s with c := { s.c with last := t } } := h.sc fun _ => rfl
/-- The plain cells. -/
theorem Is.cells (h : Is B w0 w wb k s) : (w.cell? ⟨wb, 16, none⟩ = some (.bool s.c.flows) ∧ w.cell? ⟨wb, 17, none⟩ = some (.bool s.c.op) ∧ w.cell? ⟨wb, 18, none⟩ = some (.int .i64 s.c.words) ∧ w.cell? ⟨wb, 19, none⟩ = some (.int .i64 s.c.sec) ∧ w.cell? ⟨wb, 20, none⟩ = some (.int .i64 s.c.sub) ∧ w.cell? ⟨wb, 21, none⟩ = some (.map (some k.mb)) ∧ w.cell? ⟨wb, 22, none⟩ = some (vs s.c.last)) ∧ ∀ i, w.frozen? ⟨wb, i, none⟩ = false := by
  obtain ⟨v, hw⟩ := h
  exact ⟨⟨hw.cell 16, hw.cell 17, hw.cell 18, hw.cell 19, hw.cell 20, hw.cell 21, hw.cell 22⟩, hw.frozen⟩
theorem Is.env (h : Is B w0 w wb k s) : w.cell? ⟨wb, 10, none⟩ = some k.oL ∧ w.cell? ⟨wb, 11, none⟩ = some k.oH ∧ w.cell? ⟨wb, 12, none⟩ = some k.oC ∧ w.cell? ⟨wb, 13, none⟩ = some k.oB ∧ w.cell? ⟨wb, 14, none⟩ = some k.bbl ∧ w.cell? ⟨wb, 15, none⟩ = some k.ind := by
  obtain ⟨v, hw⟩ := h
  exact ⟨hw.cell 10, hw.cell 11, hw.cell 12, hw.cell 13, hw.cell 14, hw.cell 15⟩
/-- What is set apart. -/
theorem Is.res (h : Is B w0 w wb k s) {p : Nat × Obj} (hp : p ∈ k.res) : w.heap[p.1]? = some p.2 := by
  obtain ⟨v, hw⟩ := h
  exact (hw.res p hp).1
theorem Is.keep (h : Is B w0 w wb k s) {w' : World} (hb : Below w.heap.size w w') (b : Nat) (o : Obj) (hn : w.heap.size ≤ b) (ho : w'.heap[b]? = some o) : Is B w0 w' wb { k with res := (b, o) :: k.res } s := by
  obtain ⟨v, hw⟩ := h
  have h2 := hw.below hb
  have hwl := hw.lt wb (k.mem_wb wb)
  have hml := hw.lt k.mb (k.mem_mb wb)
  refine ⟨v, h2.hB, h2.bel, h2.wbB, h2.mbB, h2.ne, h2.n10, h2.blk, ⟨h2.ow.own, h2.ow.dis, fun i hi j hj hx => ?_⟩, h2.map, fun p hp => ?_⟩
  · have := (hw.ow.lt hi j hj).2
    simp only [Cst.X, List.map_cons, List.mem_cons] at hx
    rcases hx with rfl | rfl | rfl | hx
    · exact h2.ow.out i hi _ hj (k.mem_wb _)
    · exact h2.ow.out i hi _ hj (k.mem_mb _)
    · omega
    · exact h2.ow.out i hi _ hj (by unfold Cst.X; exact List.mem_cons_of_mem _ (List.mem_cons_of_mem _ hx))
  · rcases List.mem_cons.1 hp with rfl | hp
    · exact ⟨ho, by simp only; omega, by simp only; omega⟩
    · exact h2.res p hp
theorem Is.free {R : List (Nat × Obj)} (h : Is B w0 w wb { k with res := R ++ k.res } s) : Is B w0 w wb k s := by
  obtain ⟨v, h2⟩ := h
  refine ⟨v, h2.hB, h2.bel, h2.wbB, h2.mbB, h2.ne, h2.n10, h2.blk, ⟨h2.ow.own, h2.ow.dis, fun i hi j hj hx => h2.ow.out i hi j hj ?_⟩, h2.map, fun p hp => h2.res p (List.mem_append_right _ hp)⟩
  simp only [Cst.X, List.map_append, List.mem_cons, List.mem_append] at hx ⊢
  rcases hx with hx | hx | hx
  · exact .inl hx
  · exact .inr (.inl hx)
  · exact .inr (.inr (.inr hx))
theorem Is.bel (h : Is B w0 w wb k s) : Below B w0 w := by
  obtain ⟨v, hw⟩ := h
  exact hw.bel
set_option maxRecDepth 100000 in
theorem close_any (h : Is B w0 w wb k s) : Calls Tryz.prog 34 #[.pointer (some ⟨wb, 0, none⟩)] w fun e' w' => e' = .returned (.tuple #[]) ∧ Is B w0 w' wb k (Nb.close s) := by
  obtain ⟨⟨y0, y1, _⟩, yf⟩ := h.cells
  have h1 := h.flows false
  obtain ⟨⟨_, z1, _⟩, zf⟩ := h1.cells
  have f0 := yf 16
  have f1 := zf 17
  simp only at z1
  have H := Lib.hid (h1.op false)
  clear h h1 yf zf y1
  go_enter Tryz.func34, Tryz.ntmps34
  go_wp2_with fail
  go_end0
  exact ⟨rfl, H.out⟩
set_option maxRecDepth 100000 in
theorem here_any (h : Is B w0 w wb k s) (hw : s.c.words < 1000000000) : Calls Tryz.prog 52 #[.pointer (some ⟨wb, 0, none⟩)] w fun e' w' => e' = .returned (.int .i64 (Nb.here s)) ∧ w' = w := by
  obtain ⟨⟨_, y1, y2, _⟩, yf⟩ := h.cells
  clear yf h
  unfold Nb.here
  have x1 : IntKind.i64.wrap ((s.c.words : Int) - 1) = (s.c.words : Int) - 1 := IntWalk.i64_in _ (by omega)
  cases ho : s.c.op with
  | true =>
    rw [ho] at y1
    clear ho
    rw [if_pos rfl]
    go_enter Tryz.func52, Tryz.ntmps52
    go_wp2_with fail
    go_ret
    exact ⟨rfl, rfl⟩
  | false =>
    rw [ho] at y1
    clear ho
    rw [if_neg (by simp)]
    go_enter Tryz.func52, Tryz.ntmps52
    go_wp2_with fail
    go_ret
    exact ⟨rfl, rfl⟩
set_option maxRecDepth 100000 in
theorem more_any (n : Nat) (hn : n ≤ 999998) (t : Bs) (w : World) : Calls Tryz.prog 53 #[.pointer (some ⟨wb, 0, none⟩), .agg #[.int .i64 n], vs t] w fun e' w' => e' = .returned (.agg #[.int .i64 ((n + 1 : Nat) : Int)]) ∧ Below w.heap.size w w' := by
  have hb : Below w.heap.size w ((w.alloc (.cells #[.int .i64 n] 76)).alloc (.cells #[.int .i64 0] 76)) := ((Below.refl _ _).alloc (Nat.le_refl _) _).alloc (by simp) _
  have hnew : ((w.alloc (.cells #[.int .i64 n] 76)).alloc (.cells #[.int .i64 0] 76)).heap[w.heap.size + 1]? = some (.cells #[.int .i64 0] 76) := by
    have := heap_alloc_new (w.alloc (.cells #[.int .i64 n] 76)) (.cells #[.int .i64 0] 76)
    simpa using this
  have HC := Lib.hid (cAdd_any n hn ((w.alloc (.cells #[.int .i64 n] 76)).alloc (.cells #[.int .i64 0] 76)))
  have HB := Lib.hid hb
  have HN := Lib.hid hnew
  obtain ⟨m, hm⟩ : ∃ m, m = n + 1 := ⟨_, rfl⟩
  rw [← hm] at HC ⊢
  clear hb hnew hm
  go_enter Tryz.func53, Tryz.ntmps53
  go_wp2_with fail
  refine HC.out.mono ?_
  rintro e w1 ⟨rfl, rfl⟩
  go_wp2_with fail
  have hg : ((w.alloc (.cells #[.int .i64 n] 76)).alloc (.cells #[.int .i64 m] 76)).heap[w.heap.size + 1]? = some (.cells #[.int .i64 m] 76) := by
    have := heap_alloc_new (w.alloc (.cells #[.int .i64 n] 76)) (.cells #[.int .i64 m] 76)
    simpa using this
  have d0 : ((w.alloc (.cells #[.int .i64 n] 76)).alloc (.cells #[.int .i64 m] 76)).cell? ⟨w.heap.size + 1, 0, none⟩ = some (.int .i64 m) := by rw [Lib.cell_of_heap hg]; rfl
  refine bodyPost_ret (v := .agg #[.int .i64 m]) (by
    simp [results, Tryz.f53, go_sem, d0]) rfl ⟨rfl, ((Below.refl _ _).alloc (Nat.le_refl _) _).alloc (by simp) _⟩
end
end Go.Proofs.YtjmmfihmamcopaaGreatDoor
