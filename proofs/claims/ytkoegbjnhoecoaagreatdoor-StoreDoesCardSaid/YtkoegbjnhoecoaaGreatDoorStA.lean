/- On: a store on a new disk. -/
import Derived.Test.YtkoegbjnhoecoaaGreatDoorStW9
namespace Go.Proofs.YtkoegbjnhoecoaaGreatDoor
open Go.RowKit Tx

theorem new_inR {B : Nat} {w0 w : World} (n : Int) (hn : 1 ≤ n ∧ n ≤ 4096) (hB : B ≤ w.heap.size) (hb : Below B w0 w) :
    Calls Tryz.prog 22 #[.int .i64 n] w fun e w' => ∃ bd, e = .returned (.tuple #[.pointer (some ⟨bd, 0, none⟩), .int .i64 0]) ∧ Below w.heap.size w w' ∧ w.heap.size ≤ bd ∧ Dk.InR B w0 w' bd (Dk.fresh n) [] := by
  refine (dNew_any n hn w).mono ?_
  rintro e w' ⟨rfl, h1, h2⟩
  refine ⟨_, rfl, h1, by omega, Nat.le_trans hB h1.size, hb.trans (h1.mono hB), by simp, _, h2, fun k hk => ⟨?_, by simp⟩⟩
  simp only [List.mem_cons, List.not_mem_nil, or_false] at hk
  rcases hk with rfl | rfl <;> omega
theorem parL_nil : parL [] = [] := by unfold parL; have : Wr.parse [] = .ok [] := by { unfold Wr.parse; rw [Wr.all_nil]; rfl }; rw [this]
def OnPost (B : Nat) (w0 w : World) (n : Nat) (e : Ending) (w' : World) : Prop :=
  ∃ sb bd R, e = .returned (.tuple #[.pointer (some ⟨sb, 0, none⟩), .pointer (some ⟨bd, 0, none⟩)]) ∧ StIn B w0 w' bd (Dk.fresh n) sb (0, 0) (0, 0) [] R ∧ Below w.heap.size w w' ∧ w.heap.size ≤ sb
set_option maxRecDepth 100000 in
set_option maxHeartbeats 4000000 in
theorem on_any {B : Nat} {w0 w : World} (n : Nat) (h4 : 4 ≤ n ∧ n ≤ 4096) (hB : B ≤ w.heap.size) (hb : Below B w0 w) (hg : ∀ wx, Below B w0 wx → Gl wx) :
    Calls Tryz.prog 10 #[.int .i64 n] w (OnPost B w0 w n) := by
  have HN := Lib.hid (new_inR (n : Int) (by omega) hB hb)
  go_enter Tryz.func10, Tryz.ntmps10
  go_wp2_with fail
  refine HN.out.mono ?_
  rintro e w1 ⟨bd, rfl, b1, _, hD⟩
  have HO := Lib.hid (open_any n (0, 0) (0, 0) [] hD rfl h4 rfl (Sq.Good.fresh n) (by simp) (by simp) (hg _ hD.2.1))
  have HB1 := Lib.hid b1
  clear hD b1
  go_wp2_with fail
  refine HO.out.mono ?_
  rintro e w2 ⟨sb, R, rfl, hS, hsb, _, b2⟩
  rw [parL_nil] at hS
  go_wp2_with fail
  go_ret2
  exact ⟨sb, bd, R, rfl, hS, below_via HB1.out b2, Nat.le_trans HB1.out.size hsb⟩
/-- A disk beside a store: its blocks, all of them new. -/
def Side (B : Nat) (w : World) (bd : Nat) (d : Dk.St) (F : List Nat) : Prop := Dk.Of w bd d F ∧ ∀ k ∈ F, B ≤ k
theorem Side.inR {B : Nat} {w0 w : World} {bd : Nat} {d : Dk.St} {F : List Nat} (h : Side B w bd d F) (hB : B ≤ w.heap.size) (hb : Below B w0 w) : Dk.InR B w0 w bd d [] := ⟨hB, hb, by simp, F, h.1, fun k hk => ⟨h.2 k hk, by simp⟩⟩
set_option maxRecDepth 100000 in
set_option maxHeartbeats 4000000 in
theorem on_small {w : World} (n : Int) (h4 : 1 ≤ n ∧ n < 4) :
    Calls Tryz.prog 10 #[.int .i64 n] w fun e w' => ∃ bd F, e = .returned (.tuple #[.pointer none, .pointer (some ⟨bd, 0, none⟩)]) ∧ Below w.heap.size w w' ∧ Side w.heap.size w' bd (Dk.fresh n) F := by
  have HN := Lib.hid (dNew_any n (by omega) w)
  go_enter Tryz.func10, Tryz.ntmps10
  go_wp2_with fail
  refine HN.out.mono ?_
  rintro e w1 ⟨rfl, b1, hD⟩
  have hS : Side w.heap.size w1 (w.heap.size + 1) (Dk.fresh n) [w.heap.size + 1, w.heap.size] := ⟨hD, fun k hk => by
    simp only [List.mem_cons, List.not_mem_nil, or_false] at hk
    rcases hk with rfl | rfl <;> omega⟩
  have HO := Lib.hid (open_small (hS.inR b1.size b1) h4.2)
  have HB1 := Lib.hid b1
  have HD := Lib.hid hS
  clear hD b1 hS
  go_wp2_with fail
  refine HO.out.mono ?_
  rintro e w2 ⟨rfl, rfl⟩
  go_wp2_with fail
  go_ret2
  exact ⟨_, _, rfl, HB1.out, HD.out⟩
/-- More blocks of one's own. -/
theorem StIn.more {B : Nat} {w0 w w' : World} {bd : Nat} {d : Dk.St} {sb : Nat} {h0 h1 : Sq.Head} {l : List Wr.F} {R : List Nat} (h : StIn B w0 w bd d sb h0 h1 l R) (hb : Below w.heap.size w w') (K : List Nat) (hK : ∀ k ∈ K, w.heap.size ≤ k ∧ k < w'.heap.size) : StIn B w0 w' bd d sb h0 h1 l (K ++ R) := by
  obtain ⟨fv, k1, k2, k3, k4⟩ := h.files
  refine ⟨h.disk.turn (Moved.of_below hb _) (fun k hk => ?_), List.mem_append_right _ h.mem, fv, (hb.block sb (lt_of_block k1)).trans k1, rowC_blk k2 hb.size (fun b _ hlt => hb.block b hlt), k3, fun k hk => ⟨List.mem_append_right _ (k4 k hk).1, (k4 k hk).2⟩⟩
  rcases List.mem_append.1 hk with hk | hk
  · exact ⟨.inr (hK k hk).1, (hK k hk).2⟩
  · exact ⟨.inl hk, Nat.lt_of_lt_of_le (h.disk.2.2.1 k hk).1 hb.size⟩
/-- The disk moves on, the store stays. -/
theorem StIn.disk_to {B : Nat} {w0 w w' : World} {bd : Nat} {d d' : Dk.St} {sb : Nat} {h0 h1 : Sq.Head} {l : List Wr.F} {R : List Nat} (h : StIn B w0 w bd d sb h0 h1 l R) (hI : Dk.InR B w0 w' bd d' R) (hS : Dk.Same R w w') : StIn B w0 w' bd d' sb h0 h1 l R := by
  obtain ⟨fv, k1, k2, k3, k4⟩ := h.files
  exact ⟨hI, h.mem, fv, (hS sb h.mem).trans k1, rowC_to k2 (fun b hb _ => ⟨(hI.2.2.1 b (k4 b hb).1).1, hS b (k4 b hb).1⟩), k3, k4⟩
theorem limit_inR {B : Nat} {w0 w : World} {a : Nat} {s : Dk.St} {R : List Nat} (n : Int) (hn : (Lit.int .i64 n).wf = true) (h : Dk.InR B w0 w a s R) :
    Calls Tryz.prog 19 #[.pointer (some ⟨a, 0, none⟩), .int .i64 n] w fun e w' => e = .returned (.tuple #[]) ∧ Dk.InR B w0 w' a { s with lim := some n } R ∧ Dk.Same R w w' := by
  obtain ⟨hB, hb, hR, F, hF, hF2⟩ := h
  exact (dLimit_any a s F n hn w hF).mono fun _ _ ⟨h1, h2⟩ => ⟨h1, Dk.InR.does hB hb hR hF2 h2⟩
/-- A row that was laid just now: one file. -/
theorem row_one (f : Wr.F) (w : World) : RowC 2 ff (w.alloc (.cells #[.string (bs f.1), .string (bs f.2)] 29)) (w.heap.size + 1) (.slice (some ⟨w.heap.size, 0, none⟩) 1 1) [f] := by
  refine ⟨1, by simp, by decide, .inr ⟨w.heap.size, 0, rfl, Nat.lt_succ_self _, fun j hj i u hu => ?_⟩⟩
  have : j = 0 := by simp at hj; omega
  subst this
  rw [cell_of_row _ w.heap.size _ _ 29 (0, 0) (heap_alloc_new w _)]
  simpa [ff] using hu
theorem rowK_one {B : Nat} {w : World} (f : Wr.F) (R : List Nat) (sb : Nat) (hsb : sb < w.heap.size) : RowK B ([w.heap.size] ++ R) sb (w.alloc (.cells #[.string (bs f.1), .string (bs f.2)] 29)) (.slice (some ⟨w.heap.size, 0, none⟩) 1 1) [f] := by
  refine ⟨by have := row_one f w; simpa using this, .inr ⟨_, _, _, rfl⟩, fun _ k hk => ?_⟩
  have : k = w.heap.size := by simpa [Value.ownBlock] using hk.symm
  subst this
  exact .inr ⟨by simp, by omega⟩
theorem rowK_nil {B : Nat} {R : List Nat} {sb : Nat} (w : World) : RowK B R sb w (.slice none 0 0) [] := ⟨row_none _ _, .inl rfl, fun _ k hk => by cases hk⟩
theorem gl_from {w : World} (h : Gl w) : ∀ wx, Below w.heap.size w wx → Gl wx := fun _ hb => h.below hb
/-- Heads within bounds. -/
structure HBd (G : Nat) (h0 h1 : Sq.Head) : Prop where
  a0 : h0.1 ≤ G
  a1 : h1.1 ≤ G
  b0 : h0.2 ≤ 200000
  b1 : h1.2 ≤ 200000
theorem HBd.next {G : Nat} {h0 h1 : Sq.Head} (h : HBd G h0 h1) (U : Bs) (hU : U.length ≤ 200000) : HBd (G + 1) (Sq.n0 h0 h1 U) (Sq.n1 h0 h1 U) := by
  obtain ⟨a, b, c, d⟩ := h
  unfold Sq.n0 Sq.n1 Sq.next
  by_cases e : Sq.now h0 h1 = 1
  · simp only [e, if_true]
    exact ⟨by simp only; omega, by omega, by simp only; omega, by omega⟩
  · simp only [e, if_false]
    exact ⟨by omega, by simp only; omega, by omega, by simp only; omega⟩
theorem Side.keep {B : Nat} {w w' : World} {bd : Nat} {d : Dk.St} {F : List Nat} (h : Side B w bd d F) (hk : ∀ k ∈ F, w'.heap[k]? = w.heap[k]?) : Side B w' bd d F := ⟨h.1.keep hk, h.2⟩
theorem crash_nil (d : Dk.St) : Dk.crash d [] = { d with lim := none, cnt := d.cnt + d.pend.length, pend := [] } := by
  unfold Dk.crash
  have : Dk.kept d.pend [] = [] := by cases d.pend <;> rfl
  rw [this]
  rfl
end Go.Proofs.YtkoegbjnhoecoaaGreatDoor
