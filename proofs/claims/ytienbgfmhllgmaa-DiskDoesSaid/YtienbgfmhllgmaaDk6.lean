/- A disk that a call has made itself: its functions once more, over one word 'In'. -/
import Derived.Test.YtienbgfmhllgmaaRows
import Derived.Test.YtienbgfmhllgmaaKit
import Derived.Test.YtienbgfmhllgmaaMap
import Derived.Test.YtienbgfmhllgmaaDk1
import Derived.Test.YtienbgfmhllgmaaDk2
import Derived.Test.YtienbgfmhllgmaaDk3
import Derived.Test.YtienbgfmhllgmaaDk4
import Derived.Test.YtienbgfmhllgmaaDk5
namespace Go.Proofs.Ytienbgfmhllgmaa
open Go.Maps Go.RowKit

namespace Dk
def fresh (n : Int) : St := ⟨none, n, fun _ => none, 0, []⟩
/-- Block bd is a disk in the state s, laid since w0; what lay below B lies as it lay. -/
def In (B : Nat) (w0 w : World) (bd : Nat) (s : St) : Prop := B ≤ w.heap.size ∧ Below B w0 w ∧ ∃ F, Of w bd s F ∧ ∀ k ∈ F, B ≤ k
theorem In.does {B : Nat} {w0 w w' : World} {bd : Nat} {s' : St} {F : List Nat} (hB : B ≤ w.heap.size) (hb : Below B w0 w) (hF : ∀ k ∈ F, B ≤ k) (h : Does w bd F s' w') : In B w0 w' bd s' := by
  obtain ⟨F', h1, h2, h3⟩ := h
  exact ⟨Nat.le_trans hB h2.size, hb.trans (h2.below hB hF), F', h1, fun k hk => by rcases h3 k hk with h4 | h4; exact hF k h4; omega⟩
theorem In.below {B : Nat} {w0 w w' : World} {bd : Nat} {s : St} (h : In B w0 w bd s) (hb : Below w.heap.size w w') : In B w0 w' bd s := by
  obtain ⟨hB, hb0, F, h1, h2⟩ := h
  exact ⟨Nat.le_trans hB hb.size, hb0.trans (hb.mono hB), F, h1.below hb, h2⟩
theorem In.alloc {B : Nat} {w0 w : World} {bd : Nat} {s : St} (h : In B w0 w bd s) (o : Obj) : In B w0 (w.alloc o) bd s := h.below ((Below.refl _ _).alloc (Nat.le_refl _) o)
/-- Two disks. -/
def In2 (B : Nat) (w0 w : World) (a : Nat) (s : St) (b : Nat) (t : St) : Prop :=
  B ≤ w.heap.size ∧ Below B w0 w ∧ ∃ F G, Of w a s F ∧ Of w b t G ∧ (∀ k ∈ F, B ≤ k) ∧ (∀ k ∈ G, B ≤ k) ∧ ∀ k ∈ F, k ∉ G
theorem In2.swap {B : Nat} {w0 w : World} {a b : Nat} {s t : St} (h : In2 B w0 w a s b t) : In2 B w0 w b t a s := by
  obtain ⟨h1, h2, F, G, h3, h4, h5, h6, h7⟩ := h
  exact ⟨h1, h2, G, F, h4, h3, h6, h5, fun k hk hf => h7 k hf hk⟩
theorem In2.fst {B : Nat} {w0 w : World} {a b : Nat} {s t : St} (h : In2 B w0 w a s b t) : In B w0 w a s := by
  obtain ⟨h1, h2, F, G, h3, h4, h5, h6, h7⟩ := h
  exact ⟨h1, h2, F, h3, h5⟩
theorem In2.does {B : Nat} {w0 w w' : World} {a b : Nat} {s' t : St} {F G : List Nat} (hB : B ≤ w.heap.size) (hb : Below B w0 w) (hF : ∀ k ∈ F, B ≤ k) (hG : ∀ k ∈ G, B ≤ k) (hd : ∀ k ∈ F, k ∉ G) (hg : Of w b t G) (h : Does w a F s' w') : In2 B w0 w' a s' b t := by
  obtain ⟨F', h1, h2, h3⟩ := h
  refine ⟨Nat.le_trans hB h2.size, hb.trans (h2.below hB hF), F', G, h1, hg.moved h2 (fun k hk hf => hd k hf hk), fun k hk => ?_, hG, fun k hk hkg => ?_⟩
  · rcases h3 k hk with h4 | h4
    · exact hF k h4
    · omega
  · rcases h3 k hk with h4 | h4
    · exact hd k h4 hkg
    · have := hg.lt k hkg
      omega
theorem In2.below {B : Nat} {w0 w w' : World} {a b : Nat} {s t : St} (h : In2 B w0 w a s b t) (hb : Below w.heap.size w w') : In2 B w0 w' a s b t := by
  obtain ⟨hB, hb0, F, G, h1, h2, h3, h4, h5⟩ := h
  exact ⟨Nat.le_trans hB hb.size, hb0.trans (hb.mono hB), F, G, h1.below hb, h2.below hb, h3, h4, h5⟩
theorem In2.alloc {B : Nat} {w0 w : World} {a b : Nat} {s t : St} (h : In2 B w0 w a s b t) (o : Obj) : In2 B w0 (w.alloc o) a s b t := h.below ((Below.refl _ _).alloc (Nat.le_refl _) o)
end Dk

section
variable {B : Nat} {w0 w : World} {a b : Nat} {s t : Dk.St}

theorem new_in (n : Int) (hn : 1 ≤ n ∧ n ≤ 4096) (hB : B ≤ w.heap.size) (hb : Below B w0 w) :
    Calls Try.prog 8 #[.int .i64 n] w fun e w' => ∃ a, e = .returned (.tuple #[.pointer (some ⟨a, 0, none⟩), .int .i64 0]) ∧ Dk.In B w0 w' a (Dk.fresh n) :=
  (dNew_any n hn w).mono fun _ w' ⟨h1, h2, h3⟩ => ⟨_, h1, Nat.le_trans hB h2.size, hb.trans (h2.mono hB), _, h3, fun k hk => by simp at hk; rcases hk with rfl | rfl <;> omega⟩
theorem new_in2 (n : Int) (hn : 1 ≤ n ∧ n ≤ 4096) (h : Dk.In B w0 w a s) :
    Calls Try.prog 8 #[.int .i64 n] w fun e w' => ∃ b, e = .returned (.tuple #[.pointer (some ⟨b, 0, none⟩), .int .i64 0]) ∧ Dk.In2 B w0 w' a s b (Dk.fresh n) := by
  obtain ⟨hB, hb, F, hF, hF2⟩ := h
  refine (dNew_any n hn w).mono fun _ w' ⟨h1, h2, h3⟩ => ⟨_, h1, Nat.le_trans hB h2.size, hb.trans (h2.mono hB), F, _, hF.below h2, h3, hF2, fun k hk => ?_, fun k hk hk2 => ?_⟩
  · simp at hk
    rcases hk with rfl | rfl <;> omega
  · have := hF.lt k hk
    simp at hk2
    rcases hk2 with rfl | rfl <;> omega
theorem write_in (r : Int) (i : Int) (u : ByteArray) (h : Dk.In B w0 w a s) (hp : s.pend.length < 1000000) (ht : u.size < 1000000) (hi : (Lit.int .i64 i).wf = true) (hr : (Dk.write s i u).1 = r) :
    Calls Try.prog 9 #[.pointer (some ⟨a, 0, none⟩), .int .i64 i, .string u] w fun e w' => e = .returned (.int .i64 r) ∧ Dk.In B w0 w' a (Dk.write s i u).2 := by
  obtain ⟨hB, hb, F, hF, hF2⟩ := h
  exact (dWrite_any a s F i u w hF hp ht hi).mono fun _ _ ⟨h1, h2⟩ => ⟨hr ▸ h1, Dk.In.does hB hb hF2 h2⟩
theorem write_in2 (r : Int) (i : Int) (u : ByteArray) (h : Dk.In2 B w0 w a s b t) (hp : s.pend.length < 1000000) (ht : u.size < 1000000) (hi : (Lit.int .i64 i).wf = true) (hr : (Dk.write s i u).1 = r) :
    Calls Try.prog 9 #[.pointer (some ⟨a, 0, none⟩), .int .i64 i, .string u] w fun e w' => e = .returned (.int .i64 r) ∧ Dk.In2 B w0 w' a (Dk.write s i u).2 b t := by
  obtain ⟨hB, hb, F, G, hF, hG, hF2, hG2, hd⟩ := h
  exact (dWrite_any a s F i u w hF hp ht hi).mono fun _ _ ⟨h1, h2⟩ => ⟨hr ▸ h1, Dk.In2.does hB hb hF2 hG2 hd hG h2⟩
theorem sync_in (r : Int) (h : Dk.In B w0 w a s) (hp : s.pend.length + s.cnt < 1000000) (hr : (Dk.sync s).1 = r) :
    Calls Try.prog 10 #[.pointer (some ⟨a, 0, none⟩)] w fun e w' => e = .returned (.int .i64 r) ∧ Dk.In B w0 w' a (Dk.sync s).2 := by
  obtain ⟨hB, hb, F, hF, hF2⟩ := h
  exact (dSync_any a s F w hF hp).mono fun _ _ ⟨h1, h2⟩ => ⟨hr ▸ h1, Dk.In.does hB hb hF2 h2⟩
theorem sync_in2 (r : Int) (h : Dk.In2 B w0 w a s b t) (hp : s.pend.length + s.cnt < 1000000) (hr : (Dk.sync s).1 = r) :
    Calls Try.prog 10 #[.pointer (some ⟨a, 0, none⟩)] w fun e w' => e = .returned (.int .i64 r) ∧ Dk.In2 B w0 w' a (Dk.sync s).2 b t := by
  obtain ⟨hB, hb, F, G, hF, hG, hF2, hG2, hd⟩ := h
  exact (dSync_any a s F w hF hp).mono fun _ _ ⟨h1, h2⟩ => ⟨hr ▸ h1, Dk.In2.does hB hb hF2 hG2 hd hG h2⟩
theorem limit_in (n : Int) (hn : (Lit.int .i64 n).wf = true) (h : Dk.In B w0 w a s) :
    Calls Try.prog 12 #[.pointer (some ⟨a, 0, none⟩), .int .i64 n] w fun e w' => e = .returned (.tuple #[]) ∧ Dk.In B w0 w' a { s with lim := some n } := by
  obtain ⟨hB, hb, F, hF, hF2⟩ := h
  exact (dLimit_any a s F n hn w hF).mono fun _ _ ⟨h1, h2⟩ => ⟨h1, Dk.In.does hB hb hF2 h2⟩
theorem pending_in (h : Dk.In B w0 w a s) :
    Calls Try.prog 11 #[.pointer (some ⟨a, 0, none⟩)] w fun e w' => e = .returned (.int .i64 s.pend.length) ∧ w = w' := by
  obtain ⟨hB, hb, F, hF, hF2⟩ := h
  exact dPending_any a s F w hF
/-- What is kept lies in what lay ahead, or is laid in no block of the disk. -/
theorem crash_in (v : Value) (ks : List Bool) (h : Dk.In B w0 w a s) (hp : s.pend.length + s.cnt < 1000000) (hr : Row Value.bool w B v ks) :
    Calls Try.prog 13 #[.pointer (some ⟨a, 0, none⟩), v] w fun e w' => e = .returned (.tuple #[]) ∧ Dk.In B w0 w' a (Dk.crash s ks) := by
  obtain ⟨hB, hb, F, hF, hF2⟩ := h
  exact (dCrash_any a s F v ks w hF hp (fun w' hm => ⟨B, hr.keep fun p hp => World.cell?_of_block (hm.block p.block (by omega) (fun hk => by have := hF2 _ hk; omega))⟩)).mono fun _ _ ⟨h1, h2⟩ => ⟨h1, Dk.In.does hB hb hF2 h2⟩
theorem crash_lit (ks : List Bool) (e : TypeId) (h : Dk.In B w0 w a s) (hp : s.pend.length + s.cnt < 1000000) (hk : ks.length ≤ maxLen) :
    Calls Try.prog 13 #[.pointer (some ⟨a, 0, none⟩), .slice (some ⟨w.heap.size, 0, none⟩) ks.length ks.length] (w.alloc (.cells (ks.map Value.bool).toArray e)) fun e w' => e = .returned (.tuple #[]) ∧ Dk.In B w0 w' a (Dk.crash s ks) := by
  have h' := h.alloc (.cells (ks.map Value.bool).toArray e)
  obtain ⟨hB, hb, F, hF, hF2⟩ := h
  obtain ⟨hB', hb', _⟩ := h'
  refine (dCrash_any a s F _ ks _ (hF.alloc _) hp (fun w' hm => ⟨w.heap.size + 1, Row.mk_at (Nat.le_refl _) hk (Nat.lt_succ_self _) fun j hj => ?_⟩)).mono fun _ _ ⟨h1, h2⟩ => ⟨h1, Dk.In.does hB' hb' hF2 h2⟩
  have hn : w'.heap[w.heap.size]? = (w.alloc (.cells (ks.map Value.bool).toArray e)).heap[w.heap.size]? := hm.block _ (by simp) (fun hk => by have := hF.lt _ hk; omega)
  rw [World.cell?_of_block (a := ⟨w.heap.size, 0 + j, none⟩) hn, Nat.zero_add, cell_of_row _ w.heap.size j _ e (0, 0) (heap_alloc_new w _)]
  simp [hj]
theorem crash_in2 (v : Value) (ks : List Bool) (h : Dk.In2 B w0 w a s b t) (hp : s.pend.length + s.cnt < 1000000) (hr : Row Value.bool w B v ks) :
    Calls Try.prog 13 #[.pointer (some ⟨a, 0, none⟩), v] w fun e w' => e = .returned (.tuple #[]) ∧ Dk.In2 B w0 w' a (Dk.crash s ks) b t := by
  obtain ⟨hB, hb, F, G, hF, hG, hF2, hG2, hd⟩ := h
  exact (dCrash_any a s F v ks w hF hp (fun w' hm => ⟨B, hr.keep fun p hp => World.cell?_of_block (hm.block p.block (by omega) (fun hk => by have := hF2 _ hk; omega))⟩)).mono fun _ _ ⟨h1, h2⟩ => ⟨h1, Dk.In2.does hB hb hF2 hG2 hd hG h2⟩
theorem read_in (r : ByteArray × Int) (i : Int) (h : Dk.In B w0 w a s) (hp : s.pend.length < 1000000) (hi : (Lit.int .i64 i).wf = true) (hr : Dk.read s i = r) :
    Calls Try.prog 14 #[.pointer (some ⟨a, 0, none⟩), .int .i64 i] w fun e w' => e = .returned (.tuple #[.string r.1, .int .i64 r.2]) ∧ Below w.heap.size w w' := by
  obtain ⟨hB, hb, F, hF, hF2⟩ := h
  subst hr
  exact dRead_any a s F i w hF hp hi
set_option maxHeartbeats 400000 in
theorem len_in (h : Dk.In B w0 w a s) :
    Calls Try.prog 26 #[.pointer (some ⟨a, 0, none⟩)] w fun e w' => e = .returned (.int .i64 s.n) ∧ w = w' := by
  obtain ⟨hB, hb, F, hF, hF2⟩ := h
  obtain ⟨l, bm, pv, h1, _⟩ := hF
  have h2 : w.cell? ⟨a, 2, none⟩ = some (.int .i64 s.n) := by rw [Dk.cell_of h1]; rfl
  clear h1
  go_enter Try.func26, Try.ntmps26
  go_wp2
  go_ret
  exact ⟨rfl, rfl⟩
set_option maxHeartbeats 400000 in
theorem new_no (n : Int) (hn : n < 1 ∨ 4096 < n) :
    Calls Try.prog 8 #[.int .i64 n] w fun e w' => e = .returned (.tuple #[.pointer none, .int .i64 1]) ∧ w = w' := by
  have hb : (decide (n < 1) || decide (4096 < n)) = true := by simp; omega
  go_enter Try.func8, Try.ntmps8
  go_wp2
  all_goals first | (exfalso; omega) | skip
  all_goals go_ret2
  all_goals exact ⟨rfl, rfl⟩
end
end Go.Proofs.Ytienbgfmhllgmaa
