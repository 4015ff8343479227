/- A disk that a call has made itself: its functions once more, over one word 'In'. · Disks that a call has made itself, beside other blocks R that it has made: what turns, and what does not. · Store's small functions: half, Room, the reference's Room, now, must. · strings.Builder's copyCheck and WriteString at this dump, whose copyCheck has no text for its panic. · wire.Files, the reference's Files. · 'out = append(out, xs...)', xs nil or a row whose cells are known. · Store: a head's text, what one tells; a row's clone, Load. -/
import Derived.Test.YtkoegbjnhoecoaaGreatDoorRows
import Derived.Test.YtkoegbjnhoecoaaGreatDoorH1
import Derived.Test.YtkoegbjnhoecoaaGreatDoorH3
import Derived.Test.YtkoegbjnhoecoaaGreatDoorH4
import Derived.WalkLawsBesides
import Derived.Test.YtkoegbjnhoecoaaGreatDoorShelf
import Derived.Shelf.Strings.Builder1
import Derived.Test.YtkoegbjnhoecoaaGreatDoorH2
import Derived.Deep.DrawnRows
namespace Go.Proofs.YtkoegbjnhoecoaaGreatDoor
open Go.Maps Go.RowKit

namespace Dk
def fresh (n : Int) : St := ⟨none, n, fun _ => none, 0, []⟩
/-- Block bd is a disk in the state s, laid since w0; what lay below B lies as it lay. -/
def In (B : Nat) (w0 w : World) (bd : Nat) (s : St) : Prop := B ≤ w.heap.size ∧ Below B w0 w ∧ ∃ F, Of w bd s F ∧ ∀ k ∈ F, B ≤ k
theorem In.does {B : Nat} {w0 w w' : World} {bd : Nat} {s' : St} {F : List Nat} (hB : B ≤ w.heap.size) (hb : Below B w0 w) (hF : ∀ k ∈ F, B ≤ k) (h : Does w bd F s' w') : In B w0 w' bd s' := by
  obtain ⟨F', h1, h2, h3⟩ := h
  exact ⟨Nat.le_trans hB h2.size, hb.trans (h2.below hB hF), F', h1, fun k hk => by rcases h3 k hk with h4 | h4; exact hF k h4; omega⟩
theorem In.below {B : Nat} {w0 w w' : World} {bd : Nat} {s : St} (h : In B w0 w bd s) (hb : Below w.heap.size w w') : In B w0 w' bd s := by
  obtain ⟨hB, hb0, F, h1, h2⟩ := h
  exact ⟨Nat.le_trans hB hb.size, hb0.trans (hb.mono hB), F, h1.below hb, h2⟩
theorem In.alloc {B : Nat} {w0 w : World} {bd : Nat} {s : St} (h : In B w0 w bd s) (o : Obj) : In B w0 (w.alloc o) bd s := h.below ((Below.refl _ _).alloc (Nat.le_refl _) o)
/-- Two disks. -/
def In2 (B : Nat) (w0 w : World) (a : Nat) (s : St) (b : Nat) (t : St) : Prop :=
  B ≤ w.heap.size ∧ Below B w0 w ∧ ∃ F G, Of w a s F ∧ Of w b t G ∧ (∀ k ∈ F, B ≤ k) ∧ (∀ k ∈ G, B ≤ k) ∧ ∀ k ∈ F, k ∉ G
theorem In2.swap {B : Nat} {w0 w : World} {a b : Nat} {s t : St} (h : In2 B w0 w a s b t) : In2 B w0 w b t a s := by
  obtain ⟨h1, h2, F, G, h3, h4, h5, h6, h7⟩ := h
  exact ⟨h1, h2, G, F, h4, h3, h6, h5, fun k hk hf => h7 k hf hk⟩
theorem In2.fst {B : Nat} {w0 w : World} {a b : Nat} {s t : St} (h : In2 B w0 w a s b t) : In B w0 w a s := by
  obtain ⟨h1, h2, F, G, h3, h4, h5, h6, h7⟩ := h
  exact ⟨h1, h2, F, h3, h5⟩
theorem In2.does {B : Nat} {w0 w w' : World} {a b : Nat} {s' t : St} {F G : List Nat} (hB : B ≤ w.heap.size) (hb : Below B w0 w) (hF : ∀ k ∈ F, B ≤ k) (hG : ∀ k ∈ G, B ≤ k) (hd : ∀ k ∈ F, k ∉ G) (hg : Of w b t G) (h : Does w a F s' w') : In2 B w0 w' a s' b t := by
  obtain ⟨F', h1, h2, h3⟩ := h
  refine ⟨Nat.le_trans hB h2.size, hb.trans (h2.below hB hF), F', G, h1, hg.moved h2 (fun k hk hf => hd k hf hk), fun k hk => ?_, hG, fun k hk hkg => ?_⟩
  · rcases h3 k hk with h4 | h4
    · exact hF k h4
    · omega
  · rcases h3 k hk with h4 | h4
    · exact hd k h4 hkg
    · have := hg.lt k hkg
      omega
theorem In2.below {B : Nat} {w0 w w' : World} {a b : Nat} {s t : St} (h : In2 B w0 w a s b t) (hb : Below w.heap.size w w') : In2 B w0 w' a s b t := by
  obtain ⟨hB, hb0, F, G, h1, h2, h3, h4, h5⟩ := h
  exact ⟨Nat.le_trans hB hb.size, hb0.trans (hb.mono hB), F, G, h1.below hb, h2.below hb, h3, h4, h5⟩
theorem In2.alloc {B : Nat} {w0 w : World} {a b : Nat} {s t : St} (h : In2 B w0 w a s b t) (o : Obj) : In2 B w0 (w.alloc o) a s b t := h.below ((Below.refl _ _).alloc (Nat.le_refl _) o)
end Dk

section
variable {B : Nat} {w0 w : World} {a b : Nat} {s t : Dk.St}

set_option maxRecDepth 100000 in
theorem new_in (n : Int) (hn : 1 ≤ n ∧ n ≤ 4096) (hB : B ≤ w.heap.size) (hb : Below B w0 w) :
    Calls Tryz.prog 22 #[.int .i64 n] w fun e w' => ∃ a, e = .returned (.tuple #[.pointer (some ⟨a, 0, none⟩), .int .i64 0]) ∧ Dk.In B w0 w' a (Dk.fresh n) :=
  (dNew_any n hn w).mono fun _ w' ⟨h1, h2, h3⟩ => ⟨_, h1, Nat.le_trans hB h2.size, hb.trans (h2.mono hB), _, h3, fun k hk => by simp at hk; rcases hk with rfl | rfl <;> omega⟩
set_option maxRecDepth 100000 in
theorem new_in2 (n : Int) (hn : 1 ≤ n ∧ n ≤ 4096) (h : Dk.In B w0 w a s) :
    Calls Tryz.prog 22 #[.int .i64 n] w fun e w' => ∃ b, e = .returned (.tuple #[.pointer (some ⟨b, 0, none⟩), .int .i64 0]) ∧ Dk.In2 B w0 w' a s b (Dk.fresh n) := by
  obtain ⟨hB, hb, F, hF, hF2⟩ := h
  refine (dNew_any n hn w).mono fun _ w' ⟨h1, h2, h3⟩ => ⟨_, h1, Nat.le_trans hB h2.size, hb.trans (h2.mono hB), F, _, hF.below h2, h3, hF2, fun k hk => ?_, fun k hk hk2 => ?_⟩
  · simp at hk
    rcases hk with rfl | rfl <;> omega
  · have := hF.lt k hk
    simp at hk2
    rcases hk2 with rfl | rfl <;> omega
set_option maxRecDepth 100000 in
theorem write_in (r : Int) (i : Int) (u : ByteArray) (h : Dk.In B w0 w a s) (hp : s.pend.length < 1000000) (ht : u.size < 1000000) (hi : (Lit.int .i64 i).wf = true) (hr : (Dk.write s i u).1 = r) :
    Calls Tryz.prog 30 #[.pointer (some ⟨a, 0, none⟩), .int .i64 i, .string u] w fun e w' => e = .returned (.int .i64 r) ∧ Dk.In B w0 w' a (Dk.write s i u).2 := by
  obtain ⟨hB, hb, F, hF, hF2⟩ := h
  exact (dWrite_any a s F i u w hF hp ht hi).mono fun _ _ ⟨h1, h2⟩ => ⟨hr ▸ h1, Dk.In.does hB hb hF2 h2⟩
set_option maxRecDepth 100000 in
theorem write_in2 (r : Int) (i : Int) (u : ByteArray) (h : Dk.In2 B w0 w a s b t) (hp : s.pend.length < 1000000) (ht : u.size < 1000000) (hi : (Lit.int .i64 i).wf = true) (hr : (Dk.write s i u).1 = r) :
    Calls Tryz.prog 30 #[.pointer (some ⟨a, 0, none⟩), .int .i64 i, .string u] w fun e w' => e = .returned (.int .i64 r) ∧ Dk.In2 B w0 w' a (Dk.write s i u).2 b t := by
  obtain ⟨hB, hb, F, G, hF, hG, hF2, hG2, hd⟩ := h
  exact (dWrite_any a s F i u w hF hp ht hi).mono fun _ _ ⟨h1, h2⟩ => ⟨hr ▸ h1, Dk.In2.does hB hb hF2 hG2 hd hG h2⟩
set_option maxRecDepth 100000 in
theorem sync_in (r : Int) (h : Dk.In B w0 w a s) (hp : s.pend.length + s.cnt < 1000000) (hr : (Dk.sync s).1 = r) :
    Calls Tryz.prog 32 #[.pointer (some ⟨a, 0, none⟩)] w fun e w' => e = .returned (.int .i64 r) ∧ Dk.In B w0 w' a (Dk.sync s).2 := by
  obtain ⟨hB, hb, F, hF, hF2⟩ := h
  exact (dSync_any a s F w hF hp).mono fun _ _ ⟨h1, h2⟩ => ⟨hr ▸ h1, Dk.In.does hB hb hF2 h2⟩
set_option maxRecDepth 100000 in
theorem sync_in2 (r : Int) (h : Dk.In2 B w0 w a s b t) (hp : s.pend.length + s.cnt < 1000000) (hr : (Dk.sync s).1 = r) :
    Calls Tryz.prog 32 #[.pointer (some ⟨a, 0, none⟩)] w fun e w' => e = .returned (.int .i64 r) ∧ Dk.In2 B w0 w' a (Dk.sync s).2 b t := by
  obtain ⟨hB, hb, F, G, hF, hG, hF2, hG2, hd⟩ := h
  exact (dSync_any a s F w hF hp).mono fun _ _ ⟨h1, h2⟩ => ⟨hr ▸ h1, Dk.In2.does hB hb hF2 hG2 hd hG h2⟩
set_option maxRecDepth 100000 in
theorem limit_in (n : Int) (hn : (Lit.int .i64 n).wf = true) (h : Dk.In B w0 w a s) :
    Calls Tryz.prog 19 #[.pointer (some ⟨a, 0, none⟩), .int .i64 n] w fun e w' => e = .returned (.tuple #[]) ∧ Dk.In B w0 w' a { s with lim := some n } := by
  obtain ⟨hB, hb, F, hF, hF2⟩ := h
  exact (dLimit_any a s F n hn w hF).mono fun _ _ ⟨h1, h2⟩ => ⟨h1, Dk.In.does hB hb hF2 h2⟩
set_option maxRecDepth 100000 in
theorem pending_in (h : Dk.In B w0 w a s) :
    Calls Tryz.prog 44 #[.pointer (some ⟨a, 0, none⟩)] w fun e w' => e = .returned (.int .i64 s.pend.length) ∧ w = w' := by
  obtain ⟨hB, hb, F, hF, hF2⟩ := h
  exact dPending_any a s F w hF
set_option maxRecDepth 100000 in
/-- What is kept lies in what lay ahead, or is laid in no block of the disk. -/
theorem crash_in (v : Value) (ks : List Bool) (h : Dk.In B w0 w a s) (hp : s.pend.length + s.cnt < 1000000) (hr : Row Value.bool w B v ks) :
    Calls Tryz.prog 17 #[.pointer (some ⟨a, 0, none⟩), v] w fun e w' => e = .returned (.tuple #[]) ∧ Dk.In B w0 w' a (Dk.crash s ks) := by
  obtain ⟨hB, hb, F, hF, hF2⟩ := h
  exact (dCrash_any a s F v ks w hF hp (fun w' hm => ⟨B, hr.keep fun p hp => World.cell?_of_block (hm.block p.block (by omega) (fun hk => by have := hF2 _ hk; omega))⟩)).mono fun _ _ ⟨h1, h2⟩ => ⟨h1, Dk.In.does hB hb hF2 h2⟩
set_option maxRecDepth 100000 in
theorem crash_lit (ks : List Bool) (e : TypeId) (h : Dk.In B w0 w a s) (hp : s.pend.length + s.cnt < 1000000) (hk : ks.length ≤ maxLen) :
    Calls Tryz.prog 17 #[.pointer (some ⟨a, 0, none⟩), .slice (some ⟨w.heap.size, 0, none⟩) ks.length ks.length] (w.alloc (.cells (ks.map Value.bool).toArray e)) fun e w' => e = .returned (.tuple #[]) ∧ Dk.In B w0 w' a (Dk.crash s ks) := by
  have h' := h.alloc (.cells (ks.map Value.bool).toArray e)
  obtain ⟨hB, hb, F, hF, hF2⟩ := h
  obtain ⟨hB', hb', _⟩ := h'
  refine (dCrash_any a s F _ ks _ (hF.alloc _) hp (fun w' hm => ⟨w.heap.size + 1, Row.mk_at (Nat.le_refl _) hk (Nat.lt_succ_self _) fun j hj => ?_⟩)).mono fun _ _ ⟨h1, h2⟩ => ⟨h1, Dk.In.does hB' hb' hF2 h2⟩
  have hn : w'.heap[w.heap.size]? = (w.alloc (.cells (ks.map Value.bool).toArray e)).heap[w.heap.size]? := hm.block _ (by simp) (fun hk => by have := hF.lt _ hk; omega)
  rw [World.cell?_of_block (a := ⟨w.heap.size, 0 + j, none⟩) hn, Nat.zero_add, cell_of_row _ w.heap.size j _ e (0, 0) (heap_alloc_new w _)]
  simp [hj]
set_option maxRecDepth 100000 in
theorem crash_in2 (v : Value) (ks : List Bool) (h : Dk.In2 B w0 w a s b t) (hp : s.pend.length + s.cnt < 1000000) (hr : Row Value.bool w B v ks) :
    Calls Tryz.prog 17 #[.pointer (some ⟨a, 0, none⟩), v] w fun e w' => e = .returned (.tuple #[]) ∧ Dk.In2 B w0 w' a (Dk.crash s ks) b t := by
  obtain ⟨hB, hb, F, G, hF, hG, hF2, hG2, hd⟩ := h
  exact (dCrash_any a s F v ks w hF hp (fun w' hm => ⟨B, hr.keep fun p hp => World.cell?_of_block (hm.block p.block (by omega) (fun hk => by have := hF2 _ hk; omega))⟩)).mono fun _ _ ⟨h1, h2⟩ => ⟨h1, Dk.In2.does hB hb hF2 hG2 hd hG h2⟩
set_option maxRecDepth 100000 in
theorem read_in (r : ByteArray × Int) (i : Int) (h : Dk.In B w0 w a s) (hp : s.pend.length < 1000000) (hi : (Lit.int .i64 i).wf = true) (hr : Dk.read s i = r) :
    Calls Tryz.prog 38 #[.pointer (some ⟨a, 0, none⟩), .int .i64 i] w fun e w' => e = .returned (.tuple #[.string r.1, .int .i64 r.2]) ∧ Below w.heap.size w w' := by
  obtain ⟨hB, hb, F, hF, hF2⟩ := h
  subst hr
  exact dRead_any a s F i w hF hp hi
set_option maxRecDepth 100000 in
set_option maxHeartbeats 400000 in
theorem len_in (h : Dk.In B w0 w a s) :
    Calls Tryz.prog 25 #[.pointer (some ⟨a, 0, none⟩)] w fun e w' => e = .returned (.int .i64 s.n) ∧ w = w' := by
  obtain ⟨hB, hb, F, hF, hF2⟩ := h
  obtain ⟨l, bm, pv, h1, _⟩ := hF
  have h2 : w.cell? ⟨a, 2, none⟩ = some (.int .i64 s.n) := by rw [Dk.cell_of h1]; rfl
  clear h1
  go_enter Tryz.func25, Tryz.ntmps25
  go_wp2
  go_ret
  exact ⟨rfl, rfl⟩
set_option maxRecDepth 100000 in
set_option maxHeartbeats 400000 in
theorem new_no (n : Int) (hn : n < 1 ∨ 4096 < n) :
    Calls Tryz.prog 22 #[.int .i64 n] w fun e w' => e = .returned (.tuple #[.pointer none, .int .i64 1]) ∧ w = w' := by
  have hb : (decide (n < 1) || decide (4096 < n)) = true := by simp; omega
  go_enter Tryz.func22, Tryz.ntmps22
  go_wp2
  all_goals first | (exfalso; omega) | skip
  all_goals go_ret2
  all_goals exact ⟨rfl, rfl⟩
end
end Go.Proofs.YtkoegbjnhoecoaaGreatDoor
namespace Go.Proofs.YtkoegbjnhoecoaaGreatDoor
open Go.Maps Go.RowKit

namespace Dk
def InR (B : Nat) (w0 w : World) (a : Nat) (s : St) (R : List Nat) : Prop :=
  B ≤ w.heap.size ∧ Below B w0 w ∧ (∀ k ∈ R, k < w.heap.size ∧ B ≤ k) ∧ ∃ F, Of w a s F ∧ ∀ k ∈ F, B ≤ k ∧ k ∉ R
def Same (R : List Nat) (w w' : World) : Prop := ∀ k ∈ R, w'.heap[k]? = w.heap[k]?
theorem InR.does {B : Nat} {w0 w w' : World} {a : Nat} {s' : St} {F R : List Nat} (hB : B ≤ w.heap.size) (hb : Below B w0 w) (hR : ∀ k ∈ R, k < w.heap.size ∧ B ≤ k) (hF : ∀ k ∈ F, B ≤ k ∧ k ∉ R) (h : Does w a F s' w') : InR B w0 w' a s' R ∧ Same R w w' := by
  obtain ⟨F', h1, h2, h3⟩ := h
  refine ⟨⟨Nat.le_trans hB h2.size, hb.trans (h2.below hB (fun k hk => (hF k hk).1)), fun k hk => ⟨Nat.lt_of_lt_of_le (hR k hk).1 h2.size, (hR k hk).2⟩, F', h1, fun k hk => ?_⟩, fun k hk => h2.block k (hR k hk).1 (fun hf => (hF k hf).2 hk)⟩
  rcases h3 k hk with h4 | h4
  · exact hF k h4
  · exact ⟨by omega, fun hr => by have := (hR k hr).1; omega⟩
theorem InR.below {B : Nat} {w0 w w' : World} {a : Nat} {s : St} {R : List Nat} (h : InR B w0 w a s R) (hb : Below w.heap.size w w') : InR B w0 w' a s R ∧ Same R w w' := by
  obtain ⟨hB, hb0, hR, F, h1, h2⟩ := h
  exact ⟨⟨Nat.le_trans hB hb.size, hb0.trans (hb.mono hB), fun k hk => ⟨Nat.lt_of_lt_of_le (hR k hk).1 hb.size, (hR k hk).2⟩, F, h1.below hb, h2⟩, fun k hk => hb.block k (hR k hk).1⟩
theorem InR.turn {B : Nat} {w0 w w' : World} {a : Nat} {s : St} {R R' : List Nat} (h : InR B w0 w a s R) (hm : Moved w w' R) (hR' : ∀ k ∈ R', (k ∈ R ∨ w.heap.size ≤ k) ∧ k < w'.heap.size) : InR B w0 w' a s R' := by
  obtain ⟨hB, hb0, hR, F, h1, h2⟩ := h
  refine ⟨Nat.le_trans hB hm.size, hb0.trans (hm.below hB (fun k hk => (hR k hk).2)), fun k hk => ⟨(hR' k hk).2, ?_⟩, F, h1.moved hm (fun k hk => (h2 k hk).2), fun k hk => ⟨(h2 k hk).1, fun hr => ?_⟩⟩
  · rcases (hR' k hk).1 with h | h
    · exact (hR k h).2
    · omega
  · rcases (hR' k hr).1 with h | h
    · exact (h2 k hk).2 h
    · have := h1.lt k hk
      omega
theorem InR.of_in {B : Nat} {w0 w : World} {a : Nat} {s : St} (h : In B w0 w a s) : InR B w0 w a s [] := by
  obtain ⟨hB, hb0, F, h1, h2⟩ := h
  exact ⟨hB, hb0, by simp, F, h1, fun k hk => ⟨h2 k hk, by simp⟩⟩
theorem InR.to_in {B : Nat} {w0 w : World} {a : Nat} {s : St} {R : List Nat} (h : InR B w0 w a s R) : In B w0 w a s := by
  obtain ⟨hB, hb0, hR, F, h1, h2⟩ := h
  exact ⟨hB, hb0, F, h1, fun k hk => (h2 k hk).1⟩
theorem InR.add {B : Nat} {w0 w : World} {a : Nat} {s : St} {R : List Nat} (h : InR B w0 w a s R) (o : Obj) : InR B w0 (w.alloc o) a s (w.heap.size :: R) :=
  h.turn ((Moved.refl _ _).alloc o) (fun k hk => by
    simp only [List.mem_cons] at hk
    rcases hk with rfl | hk
    · exact ⟨.inr (Nat.le_refl _), by simp⟩
    · exact ⟨.inl hk, by have := (h.2.2.1 k hk).1; simp; omega⟩)

def In2R (B : Nat) (w0 w : World) (a : Nat) (s : St) (b : Nat) (t : St) (R : List Nat) : Prop :=
  B ≤ w.heap.size ∧ Below B w0 w ∧ (∀ k ∈ R, k < w.heap.size ∧ B ≤ k) ∧ ∃ F G, Of w a s F ∧ Of w b t G ∧ (∀ k ∈ F, B ≤ k ∧ k ∉ R) ∧ (∀ k ∈ G, B ≤ k ∧ k ∉ R) ∧ ∀ k ∈ F, k ∉ G
theorem In2R.swap {B : Nat} {w0 w : World} {a b : Nat} {s t : St} {R : List Nat} (h : In2R B w0 w a s b t R) : In2R B w0 w b t a s R := by
  obtain ⟨h1, h2, hR, F, G, h3, h4, h5, h6, h7⟩ := h
  exact ⟨h1, h2, hR, G, F, h4, h3, h6, h5, fun k hk hf => h7 k hf hk⟩
theorem In2R.fst {B : Nat} {w0 w : World} {a b : Nat} {s t : St} {R : List Nat} (h : In2R B w0 w a s b t R) : InR B w0 w a s R := by
  obtain ⟨h1, h2, hR, F, G, h3, h4, h5, h6, h7⟩ := h
  exact ⟨h1, h2, hR, F, h3, h5⟩
theorem In2R.of_in2 {B : Nat} {w0 w : World} {a b : Nat} {s t : St} (h : In2 B w0 w a s b t) : In2R B w0 w a s b t [] := by
  obtain ⟨h1, h2, F, G, h3, h4, h5, h6, h7⟩ := h
  exact ⟨h1, h2, by simp, F, G, h3, h4, fun k hk => ⟨h5 k hk, by simp⟩, fun k hk => ⟨h6 k hk, by simp⟩, h7⟩
theorem In2R.does {B : Nat} {w0 w w' : World} {a b : Nat} {s' t : St} {F G R : List Nat} (hB : B ≤ w.heap.size) (hb : Below B w0 w) (hR : ∀ k ∈ R, k < w.heap.size ∧ B ≤ k) (hF : ∀ k ∈ F, B ≤ k ∧ k ∉ R) (hG : ∀ k ∈ G, B ≤ k ∧ k ∉ R) (hd : ∀ k ∈ F, k ∉ G) (hg : Of w b t G) (h : Does w a F s' w') : In2R B w0 w' a s' b t R ∧ Same R w w' := by
  obtain ⟨F', h1, h2, h3⟩ := h
  refine ⟨⟨Nat.le_trans hB h2.size, hb.trans (h2.below hB (fun k hk => (hF k hk).1)), fun k hk => ⟨Nat.lt_of_lt_of_le (hR k hk).1 h2.size, (hR k hk).2⟩, F', G, h1, hg.moved h2 (fun k hk hf => hd k hf hk), fun k hk => ?_, hG, fun k hk hkg => ?_⟩, fun k hk => h2.block k (hR k hk).1 (fun hf => (hF k hf).2 hk)⟩
  · rcases h3 k hk with h4 | h4
    · exact hF k h4
    · exact ⟨by omega, fun hr => by have := (hR k hr).1; omega⟩
  · rcases h3 k hk with h4 | h4
    · exact hd k h4 hkg
    · have := hg.lt k hkg
      omega
theorem In2R.below {B : Nat} {w0 w w' : World} {a b : Nat} {s t : St} {R : List Nat} (h : In2R B w0 w a s b t R) (hb : Below w.heap.size w w') : In2R B w0 w' a s b t R ∧ Same R w w' := by
  obtain ⟨hB, hb0, hR, F, G, h1, h2, h3, h4, h5⟩ := h
  exact ⟨⟨Nat.le_trans hB hb.size, hb0.trans (hb.mono hB), fun k hk => ⟨Nat.lt_of_lt_of_le (hR k hk).1 hb.size, (hR k hk).2⟩, F, G, h1.below hb, h2.below hb, h3, h4, h5⟩, fun k hk => hb.block k (hR k hk).1⟩
theorem In2R.turn {B : Nat} {w0 w w' : World} {a b : Nat} {s t : St} {R R' : List Nat} (h : In2R B w0 w a s b t R) (hm : Moved w w' R) (hR' : ∀ k ∈ R', (k ∈ R ∨ w.heap.size ≤ k) ∧ k < w'.heap.size) : In2R B w0 w' a s b t R' := by
  obtain ⟨hB, hb0, hR, F, G, h1, h2, h3, h4, h5⟩ := h
  refine ⟨Nat.le_trans hB hm.size, hb0.trans (hm.below hB (fun k hk => (hR k hk).2)), fun k hk => ⟨(hR' k hk).2, ?_⟩, F, G, h1.moved hm (fun k hk => (h3 k hk).2), h2.moved hm (fun k hk => (h4 k hk).2), fun k hk => ⟨(h3 k hk).1, fun hr => ?_⟩, fun k hk => ⟨(h4 k hk).1, fun hr => ?_⟩, h5⟩
  · rcases (hR' k hk).1 with h | h
    · exact (hR k h).2
    · omega
  · rcases (hR' k hr).1 with h | h
    · exact (h3 k hk).2 h
    · have := h1.lt k hk
      omega
  · rcases (hR' k hr).1 with h | h
    · exact (h4 k hk).2 h
    · have := h2.lt k hk
      omega
theorem In2R.add {B : Nat} {w0 w : World} {a b : Nat} {s t : St} {R : List Nat} (h : In2R B w0 w a s b t R) (o : Obj) : In2R B w0 (w.alloc o) a s b t (w.heap.size :: R) :=
  h.turn ((Moved.refl _ _).alloc o) (fun k hk => by
    simp only [List.mem_cons] at hk
    rcases hk with rfl | hk
    · exact ⟨.inr (Nat.le_refl _), by simp⟩
    · exact ⟨.inl hk, by have := (h.2.2.1 k hk).1; simp; omega⟩)
end Dk

section
variable {B : Nat} {w0 w : World} {a b : Nat} {s t : Dk.St} {R : List Nat}
set_option maxRecDepth 100000 in
theorem write_inR (r : Int) (i : Int) (u : ByteArray) (h : Dk.InR B w0 w a s R) (hp : s.pend.length < 1000000) (ht : u.size < 1000000) (hi : (Lit.int .i64 i).wf = true) (hr : (Dk.write s i u).1 = r) :
    Calls Tryz.prog 30 #[.pointer (some ⟨a, 0, none⟩), .int .i64 i, .string u] w fun e w' => e = .returned (.int .i64 r) ∧ Dk.InR B w0 w' a (Dk.write s i u).2 R ∧ Dk.Same R w w' := by
  obtain ⟨hB, hb, hR, F, hF, hF2⟩ := h
  exact (dWrite_any a s F i u w hF hp ht hi).mono fun _ _ ⟨h1, h2⟩ => ⟨hr ▸ h1, Dk.InR.does hB hb hR hF2 h2⟩
set_option maxRecDepth 100000 in
theorem write_in2R (r : Int) (i : Int) (u : ByteArray) (h : Dk.In2R B w0 w a s b t R) (hp : s.pend.length < 1000000) (ht : u.size < 1000000) (hi : (Lit.int .i64 i).wf = true) (hr : (Dk.write s i u).1 = r) :
    Calls Tryz.prog 30 #[.pointer (some ⟨a, 0, none⟩), .int .i64 i, .string u] w fun e w' => e = .returned (.int .i64 r) ∧ Dk.In2R B w0 w' a (Dk.write s i u).2 b t R ∧ Dk.Same R w w' := by
  obtain ⟨hB, hb, hR, F, G, hF, hG, hF2, hG2, hd⟩ := h
  exact (dWrite_any a s F i u w hF hp ht hi).mono fun _ _ ⟨h1, h2⟩ => ⟨hr ▸ h1, Dk.In2R.does hB hb hR hF2 hG2 hd hG h2⟩
set_option maxRecDepth 100000 in
theorem sync_in2R (r : Int) (h : Dk.In2R B w0 w a s b t R) (hp : s.pend.length + s.cnt < 1000000) (hr : (Dk.sync s).1 = r) :
    Calls Tryz.prog 32 #[.pointer (some ⟨a, 0, none⟩)] w fun e w' => e = .returned (.int .i64 r) ∧ Dk.In2R B w0 w' a (Dk.sync s).2 b t R ∧ Dk.Same R w w' := by
  obtain ⟨hB, hb, hR, F, G, hF, hG, hF2, hG2, hd⟩ := h
  exact (dSync_any a s F w hF hp).mono fun _ _ ⟨h1, h2⟩ => ⟨hr ▸ h1, Dk.In2R.does hB hb hR hF2 hG2 hd hG h2⟩
theorem row_low_keep {w w' : World} {B : Nat} {v : Value} {ks : List Bool} {F : List Nat} (hr : Row Value.bool w B v ks) (hB : B ≤ w.heap.size) (hF : ∀ k ∈ F, B ≤ k) (hm : Moved w w' F) : Row Value.bool w' B v ks :=
  hr.keep fun p hp => World.cell?_of_block (hm.block p.block (by omega) (fun hk => by have := hF _ hk; omega))
set_option maxRecDepth 100000 in
theorem crash_inR (v : Value) (ks : List Bool) (h : Dk.InR B w0 w a s R) (hp : s.pend.length + s.cnt < 1000000) (hr : Row Value.bool w B v ks) :
    Calls Tryz.prog 17 #[.pointer (some ⟨a, 0, none⟩), v] w fun e w' => e = .returned (.tuple #[]) ∧ Dk.InR B w0 w' a (Dk.crash s ks) R ∧ Dk.Same R w w' := by
  obtain ⟨hB, hb, hR, F, hF, hF2⟩ := h
  exact (dCrash_any a s F v ks w hF hp (fun w' hm => ⟨B, row_low_keep hr hB (fun k hk => (hF2 k hk).1) hm⟩)).mono fun _ _ ⟨h1, h2⟩ => ⟨h1, Dk.InR.does hB hb hR hF2 h2⟩
set_option maxRecDepth 100000 in
theorem crash_in2R (v : Value) (ks : List Bool) (h : Dk.In2R B w0 w a s b t R) (hp : s.pend.length + s.cnt < 1000000) (hr : Row Value.bool w B v ks) :
    Calls Tryz.prog 17 #[.pointer (some ⟨a, 0, none⟩), v] w fun e w' => e = .returned (.tuple #[]) ∧ Dk.In2R B w0 w' a (Dk.crash s ks) b t R ∧ Dk.Same R w w' := by
  obtain ⟨hB, hb, hR, F, G, hF, hG, hF2, hG2, hd⟩ := h
  exact (dCrash_any a s F v ks w hF hp (fun w' hm => ⟨B, row_low_keep hr hB (fun k hk => (hF2 k hk).1) hm⟩)).mono fun _ _ ⟨h1, h2⟩ => ⟨h1, Dk.In2R.does hB hb hR hF2 hG2 hd hG h2⟩
set_option maxRecDepth 100000 in
/-- .. what is kept lies in a row of the call's own, its block among R. -/
theorem crash_own2R (v : Value) (ks : List Bool) (n : Nat) (h : Dk.In2R B w0 w a s b t R) (hp : s.pend.length + s.cnt < 1000000) (hr : w.ownsRow B 4 1 v n (ks.map Value.bool)) (hv : ∀ k, v.ownBlock = some k → k ∈ R) :
    Calls Tryz.prog 17 #[.pointer (some ⟨a, 0, none⟩), v] w fun e w' => e = .returned (.tuple #[]) ∧ Dk.In2R B w0 w' a (Dk.crash s ks) b t R ∧ Dk.Same R w w' := by
  obtain ⟨hB, hb, hR, F, G, hF, hG, hF2, hG2, hd⟩ := h
  exact (dCrash_any a s F v ks w hF hp (fun w' hm => ⟨_, Row.own (own_heap hr (fun k hk => hm.block k (hR k (hv k hk)).1 (fun hf => (hF2 k hf).2 (hv k hk))))⟩)).mono fun _ _ ⟨h1, h2⟩ => ⟨h1, Dk.In2R.does hB hb hR hF2 hG2 hd hG h2⟩
end
end Go.Proofs.YtkoegbjnhoecoaaGreatDoor
namespace Go.Proofs.YtkoegbjnhoecoaaGreatDoor
open Go.RowKit Tx

/-- Room, of any number. -/
def roomZ (n : Int) : Int := if n < 4 then 0 else ((64 * Sq.half (min n 4096).toNat : Nat) : Int)
theorem half_eq (k : Nat) (h : 4 ≤ k) : Int.tdiv ((k : Int) - 2) 2 = ((Sq.half k : Nat) : Int) := by
  rw [Int.tdiv_eq_ediv_of_nonneg (by omega)]
  unfold Sq.half
  omega
theorem half_le (k : Nat) (h : k ≤ 4096) : Sq.half k ≤ 2047 := by unfold Sq.half; omega
theorem half_any (k : Nat) (h : 4 ≤ k ∧ k ≤ 4096) (w : World) :
    Calls Tryz.prog 21 #[.int .i64 k] w fun e w' => e = .returned (.int .i64 (Sq.half k : Nat)) ∧ w = w' := by
  have h1 : IntKind.i64.wrap ((k : Int) - 2) = (k : Int) - 2 := IntWalk.i64_in _ (by omega)
  have h2 := half_eq k h.1
  have h4 := half_le k h.2
  have h3 : IntKind.i64.wrap ((Sq.half k : Nat) : Int) = ((Sq.half k : Nat) : Int) := IntWalk.i64_in _ (by omega)
  generalize Sq.half k = q at *
  go_enter Tryz.func21, Tryz.ntmps21
  go_wp2_with fail
  go_ret
  exact ⟨rfl, rfl⟩
theorem room_any (n : Int) (w : World) :
    Calls Tryz.prog 8 #[.int .i64 n] w fun e w' => e = .returned (.int .i64 (roomZ n)) ∧ w = w' := by
  unfold roomZ
  by_cases h : n < 4
  · rw [if_pos h]
    go_enter Tryz.func8, Tryz.ntmps8
    go_wp2_with fail
    go_ret
    exact ⟨rfl, rfl⟩
  · rw [if_neg h]
    obtain ⟨k, hk⟩ : ∃ k : Nat, min n 4096 = (k : Int) := ⟨(min n 4096).toNat, by omega⟩
    rw [hk, Int.toNat_natCast]
    have hk4 : 4 ≤ k ∧ k ≤ 4096 := by omega
    have HH := Lib.hid (half_any k hk4)
    have h4 := half_le k hk4.2
    have h3 : IntKind.i64.wrap (64 * ((Sq.half k : Nat) : Int)) = ((64 * Sq.half k : Nat) : Int) := by rw [IntWalk.i64_in _ (by omega)]; omega
    generalize Sq.half k = q at *
    go_enter Tryz.func8, Tryz.ntmps8
    go_wp2_with fail
    refine (HH.out w).mono ?_
    rintro e w1 ⟨rfl, rfl⟩
    go_wp2_with fail
    go_ret
    exact ⟨rfl, rfl⟩
theorem rroom_any (n : Int) (w : World) :
    Calls Tryz.prog 9 #[.int .i64 n] w fun e w' => e = .returned (.int .i64 (roomZ n)) ∧ w = w' := by
  unfold roomZ
  by_cases h : n < 4
  · rw [if_pos h]
    go_enter Tryz.func9, Tryz.ntmps9
    go_wp2_with fail
    go_ret
    exact ⟨rfl, rfl⟩
  · rw [if_neg h]
    obtain ⟨k, hk⟩ : ∃ k : Nat, min n 4096 = (k : Int) := ⟨(min n 4096).toNat, by omega⟩
    rw [hk, Int.toNat_natCast]
    have hk4 : 4 ≤ k ∧ k ≤ 4096 := by omega
    have h1 : IntKind.i64.wrap ((k : Int) - 2) = (k : Int) - 2 := IntWalk.i64_in _ (by omega)
    have h2 := half_eq k hk4.1
    have h4 := half_le k hk4.2
    have h5 : IntKind.i64.wrap ((Sq.half k : Nat) : Int) = ((Sq.half k : Nat) : Int) := IntWalk.i64_in _ (by omega)
    have h3 : IntKind.i64.wrap (64 * ((Sq.half k : Nat) : Int)) = ((64 * Sq.half k : Nat) : Int) := by rw [IntWalk.i64_in _ (by omega)]; omega
    generalize Sq.half k = q at *
    go_enter Tryz.func9, Tryz.ntmps9
    go_wp2_with fail
    go_ret
    exact ⟨rfl, rfl⟩
/-- A store's block: its disk, its heads, its files. -/
def SBlk (bd : Nat) (h0 h1 : Sq.Head) (fv : Value) : Obj := .cells #[.pointer (some ⟨bd, 0, none⟩), .int .i64 h0.1, .int .i64 h0.2, .int .i64 h1.1, .int .i64 h1.2, fv] 60 (0, 0)
theorem sblk_cells {w : World} {sb bd : Nat} {h0 h1 : Sq.Head} {fv : Value} (h : w.heap[sb]? = some (SBlk bd h0 h1 fv)) :
    w.cell? ⟨sb, 0, none⟩ = some (.pointer (some ⟨bd, 0, none⟩)) ∧ w.cell? ⟨sb, 1, none⟩ = some (.int .i64 h0.1) ∧ w.cell? ⟨sb, 2, none⟩ = some (.int .i64 h0.2) ∧ w.cell? ⟨sb, 3, none⟩ = some (.int .i64 h1.1) ∧ w.cell? ⟨sb, 4, none⟩ = some (.int .i64 h1.2) ∧ w.cell? ⟨sb, 5, none⟩ = some fv ∧ ∀ j, w.frozen? ⟨sb, j, none⟩ = false := by
  unfold SBlk at h
  simp [World.cell?, World.frozen?, h]
set_option maxRecDepth 100000 in
theorem now_any (sb bd : Nat) (h0 h1 : Sq.Head) (fv : Value) (w : World) (h : w.heap[sb]? = some (SBlk bd h0 h1 fv)) :
    Calls Tryz.prog 27 #[.pointer (some ⟨sb, 0, none⟩)] w fun e w' => e = .returned (.int .i64 (Sq.now h0 h1 : Nat)) ∧ ∃ n, w' = w.drewN n := by
  obtain ⟨_, c1, _, c3, _, _, _⟩ := sblk_cells h
  by_cases hlt : h0.1 < h1.1
  · have e : Sq.now h0 h1 = 1 := by unfold Sq.now; rw [if_pos hlt]
    rw [e]
    have q1 : (h1.1 : Int) > (h0.1 : Int) := by omega
    have q2 : (h0.1 : Int) < (h1.1 : Int) := by omega
    clear hlt e
    go_enter Tryz.func27, Tryz.ntmps27
    go_wp2_with fail
    go_quiet (fail)
    go_wp2_with fail
    go_ret
    exact ⟨rfl, _, rfl⟩
  · have e : Sq.now h0 h1 = 0 := by unfold Sq.now; rw [if_neg hlt]
    rw [e]
    have q1 : ¬ (h0.1 : Int) < (h1.1 : Int) := by omega
    clear hlt e
    go_enter Tryz.func27, Tryz.ntmps27
    go_wp2_with fail
    go_quiet (fail)
    go_wp2_with fail
    go_ret
    exact ⟨rfl, _, rfl⟩
theorem must_ok (w : World) : Calls Tryz.prog 29 #[.int .i64 0] w fun e w' => e = .returned (.tuple #[]) ∧ w' = w := by
  go_enter Tryz.func29, Tryz.ntmps29
  go_wp2_with fail
  go_end0
  exact ⟨rfl, rfl⟩
/-- What ends a commit. -/
def deadV : List PanicEntry := [{ v := .iface 63 (.agg #[.int .i64 8]), recovered := false }]
theorem must_dead (w : World) : Calls Tryz.prog 29 #[.int .i64 8] w fun e w' => e = .panicked deadV ∧ w' = w := by
  go_enter Tryz.func29, Tryz.ntmps29
  go_wp2_with fail
  exact ⟨rfl, rfl, rfl⟩
end Go.Proofs.YtkoegbjnhoecoaaGreatDoor
namespace Go.Proofs.YtkoegbjnhoecoaaGreatDoor
open Go.RowKit Go.Lib

set_option maxRecDepth 100000 in
theorem copyCheck_used (b : Nat) (w : World) (h0 : w.cell? ⟨b, 0, none⟩ = some (.pointer (some ⟨b, 0, none⟩))) :
    Calls Tryz.prog 56 #[.pointer (some ⟨b, 0, none⟩)] w fun e w' => e = .returned (.tuple #[]) ∧ w' = w := by
  obtain ⟨j, hj, _⟩ := Option.map_eq_some_iff.1 (show (Tryz.prog.info? 88).map (·.size) = some 2 by kernel_rfl)
  go_enter Tryz.func56, Tryz.ntmps56
  go_wp2
  rw [Lib.run_neq_ptr_same w _ Tryz.underlying85 hj]
  go_wp2
  go_end0
  exact ⟨rfl, rfl⟩

set_option maxRecDepth 100000 in
theorem copyCheck_fresh (b : Nat) (w : World) (h0 : w.cell? ⟨b, 0, none⟩ = some (.pointer none)) (hsh : w.shape? b = some (88, 2)) (hfz : w.frozen? ⟨b, 0, none⟩ = false) :
    Calls Tryz.prog 56 #[.pointer (some ⟨b, 0, none⟩)] w fun e w' => e = .returned (.tuple #[]) ∧ w' = w.setCell ⟨b, 0, none⟩ (.pointer (some ⟨b, 0, none⟩)) := by
  obtain ⟨j, hj, hjs⟩ := Option.map_eq_some_iff.1 (show (Tryz.prog.info? 88).map (·.size) = some 2 by kernel_rfl)
  go_enter Tryz.func56, Tryz.ntmps56
  go_wp2
  rw [Lib.run_to_unsafe w ⟨b, 0, none⟩ Tryz.underlying85 Tryz.underlying112 hj (by rw [hjs]; decide) hsh (Nat.zero_lt_succ 1)]
  simp only [Result.andThen]
  rw [Oper.upon_value]
  go_wp2
  rw [run_callFunc_extern Tryz.func64 (by kernel_rfl) (by kernel_rfl) (by kernel_rfl) (e := Extern.AbiNoEscape.same) (by kernel_rfl)]
  rw [Lib.run_noEscape]
  simp only [Result.andThen]
  rw [Oper.upon_value]
  go_wp2
  rw [Lib.run_from_unsafe w ⟨b, 0, none⟩ Tryz.underlying112 Tryz.underlying85 hj hsh (by kernel_rfl)]
  simp only [Result.andThen]
  rw [Oper.upon_value]
  go_wp2
  go_end0
  exact ⟨rfl, rfl⟩

theorem wr_cells_set {w : World} {b j : Nat} {c : Array Value} {t : TypeId} (h : w.heap[b]? = some (.cells c t (0, 0))) (v : Value) : (w.setCell ⟨b, j, none⟩ v).heap[b]? = some (.cells (c.setIfInBounds j v) t (0, 0)) := by
  have hlt := lt_of_block h
  have h' : w.heap[b] = .cells c t (0, 0) := by simpa [Array.getElem?_eq_getElem hlt] using h
  show (w.heap.modify b _)[b]? = _
  rw [Array.getElem?_eq_getElem (by simpa using hlt), Array.getElem_modify_self, h']
  rfl
abbrev ez : Value := .string ⟨#[]⟩
set_option maxHeartbeats 2000000 in
/-- A builder whose buffer is v. -/
def BAt (B b : Nat) (v : Value) (bs : List Value) (w : World) : Prop := B ≤ b ∧ ∃ p, (p = .pointer none ∨ p = .pointer (some ⟨b, 0, none⟩)) ∧ w.heap[b]? = some (.cells #[p, v] 88 (0, 0)) ∧ w.ownsRow B 5 1 v bs.length bs ∧ v.ownBlock ≠ some b
theorem BAt.is {B b : Nat} {v : Value} {bs : List Value} {w : World} (h : BAt B b v bs w) : Lib.IsBuilder 88 5 B b bs w := by
  obtain ⟨h1, p, hp, h2⟩ := h
  rcases hp with rfl | rfl
  · exact .inl ⟨h1, v, h2⟩
  · exact .inr ⟨h1, v, h2⟩
theorem BAt.fresh (w : World) : BAt w.heap.size w.heap.size (.slice none 0 0) [] (w.alloc (.cells #[.pointer none, .slice none 0 0] 88)) :=
  ⟨Nat.le_refl _, _, .inl rfl, heap_alloc_new w _, World.ownsRow_nil _ _ _ _, by simp [Value.ownBlock]⟩
theorem BAt.below {B b : Nat} {v : Value} {bs : List Value} {w w' : World} (h : BAt B b v bs w) (hb : Below w.heap.size w w') : BAt B b v bs w' := by
  obtain ⟨h1, p, hp, h2, h3, h4⟩ := h
  exact ⟨h1, p, hp, (hb.block _ (Array.getElem?_eq_some_iff.1 h2).1).trans h2, own_below h3 hb, h4⟩
theorem BAt.lt {B b : Nat} {v : Value} {bs : List Value} {w : World} (h : BAt B b v bs w) : b < w.heap.size ∧ ∀ k, v.ownBlock = some k → k < w.heap.size := by
  obtain ⟨h1, p, hp, h2, h3, h4⟩ := h
  exact ⟨(Array.getElem?_eq_some_iff.1 h2).1, fun k hk => (h3.lt k hk).2⟩
theorem copyCheck_any (B b : Nat) (v : Value) (bs : List Value) (w : World) (h : BAt B b v bs w) :
    Calls Tryz.prog 56 #[.pointer (some ⟨b, 0, none⟩)] w fun e w' => e = .returned (.tuple #[]) ∧ w'.heap[b]? = some (.cells #[.pointer (some ⟨b, 0, none⟩), v] 88 (0, 0)) ∧ w'.ownsRow B 5 1 v bs.length bs ∧ Below B w w' ∧ ∀ k, k ≠ b → w'.heap[k]? = w.heap[k]? := by
  obtain ⟨h1, p, hp, h2, h3, h4⟩ := h
  rcases hp with rfl | rfl
  · have hA : Lib.BuilderAt 88 5 B b (.pointer none) bs w := ⟨h1, v, h2, h3, h4⟩
    refine (copyCheck_fresh b w hA.cell0 hA.shape hA.frozen0).mono ?_
    rintro e w' ⟨rfl, rfl⟩
    have hk : ∀ k, k ≠ b → (w.setCell ⟨b, 0, none⟩ (.pointer (some ⟨b, 0, none⟩))).heap[k]? = w.heap[k]? := fun k hk => Below.heap_setCell _ _ _ _ (fun e => hk (by simpa using e))
    refine ⟨rfl, ?_, own_heap h3 (fun k hk' => hk k (fun e => h4 (by rw [hk', e]))), (Below.refl B w).setCell (p := ⟨b, 0, none⟩) h1 _, hk⟩
    have := wr_cells_set (j := 0) h2 (.pointer (some ⟨b, 0, none⟩))
    exact this
  · have hA : Lib.BuilderAt 88 5 B b (.pointer (some ⟨b, 0, none⟩)) bs w := ⟨h1, v, h2, h3, h4⟩
    refine (copyCheck_used b w hA.cell0).mono ?_
    rintro e w' ⟨rfl, rfl⟩
    exact ⟨rfl, h2, h3, Below.refl B _, fun _ _ => rfl⟩

theorem u8Info : (Tryz.prog.info? 5).map (fun i => (i.zero, i.size, i.bytes)) = some (some (.int .u8 0), 1, 1) := by kernel_rfl
set_option maxRecDepth 100000 in
set_option maxHeartbeats 2000000 in
theorem writeString_at (B b : Nat) (v0 : Value) (bs : List Value) (s : ByteArray) (w : World) (h : BAt B b v0 bs w) (hlen : bs.length + s.size ≤ 140737488355328) (hBw : B ≤ w.heap.size) :
    Calls Tryz.prog 41 #[.pointer (some ⟨b, 0, none⟩), .string s] w fun e w' => e = .returned (.tuple #[.int .i64 s.size, .nilIface]) ∧ (∃ v', BAt B b v' (bs ++ Lib.strCells s) w') ∧ Below B w w' ∧ ∀ k, k < w.heap.size → k ≠ b → v0.ownBlock ≠ some k → w'.heap[k]? = w.heap[k]? := by
  obtain ⟨i0, hi, hz0, hz1, hz2⟩ := info_parts u8Info
  have hB := h.1
  have hne := h.2.choose_spec.2.2.2
  go_enter Tryz.func41, Tryz.ntmps41
  go_wp2_with (go_at_call 56; refine (copyCheck_any B b v0 bs _ h).mono ?_)
  rintro e w1 ⟨rfl, hbk, hown, hb1, hoth⟩
  have c0 : w1.cell? ⟨b, 0, none⟩ = some (.pointer (some ⟨b, 0, none⟩)) := by rw [Lib.cell_of_heap hbk]; rfl
  have c1 : w1.cell? ⟨b, 1, none⟩ = some v0 := by rw [Lib.cell_of_heap hbk]; rfl
  have HO := Lib.hid hoth
  have HN := Lib.hid hne
  clear hoth hne h
  go_wp2_with (at_builtin; refine Lib.wpList_append_own_string _ rfl _ _ 86 9 rfl B 5 i0 Tryz.underlying86 Tryz.underlying9 hi hz0 hz1 hz2 _ _ _ rfl hown s rfl ?c3 ?c4 ?c5 ?_)
  case c3 => unfold maxLen; omega
  case c4 => omega
  case c5 => have := hb1.size; omega
  intro v' w2 hown' hgrow _
  have hlt : b < w1.heap.size := by
    rcases Nat.lt_or_ge b w1.heap.size with h' | h'
    · exact h'
    · simp [Array.getElem?_eq_none h'] at hbk
  have hb2 : w2.heap[b]? = some (.cells #[.pointer (some ⟨b, 0, none⟩), v0] 88 (0, 0)) := by
    rw [hgrow.block b hlt (fun e => HN.out e.symm)]
    exact hbk
  have d0 : w2.cell? ⟨b, 0, none⟩ = some (.pointer (some ⟨b, 0, none⟩)) := by rw [Lib.cell_of_heap hb2]; rfl
  have d1 : w2.cell? ⟨b, 1, none⟩ = some v0 := by rw [Lib.cell_of_heap hb2]; rfl
  have f1 : w2.frozen? ⟨b, 1, none⟩ = false := Lib.frozen_of_heap hb2 1
  obtain ⟨ao, n', cap, rfl⟩ : ∃ ao n' cap, v' = .slice ao n' cap := by
    rcases hown'.2 with ⟨hv, _⟩ | ⟨g, cap, cur, hv, _⟩
    · exact ⟨_, _, _, hv⟩
    · exact ⟨_, _, _, hv⟩
  go_wp2
  go_ret2
  refine ⟨rfl, ?_, ?_, ?_⟩
  · have hq := Lib.BuilderAt.put (T := 88) (e := 5) hB hb2 (bs' := bs ++ Lib.strCells s) (by simpa [Lib.strCells_length] using hown') (by decide)
    obtain ⟨q1, vq, q2, q3, q4⟩ := hq
    exact ⟨vq, q1, _, .inr rfl, q2, q3, q4⟩
  · exact (hb1.grown hgrow (by have := hb1.size; omega) (fun k hk => (hown.lt k hk).1)).setCell (p := ⟨b, 1, none⟩) hB _
  · intro k hk hkb hkv
    have e1 : w1.heap.size ≥ w.heap.size := hb1.size
    rw [Below.heap_setCell _ _ _ _ (fun e => hkb (by simpa using e)), hgrow.block k (by omega) (fun e => hkv e.symm)]
    exact HO.out k hkb
end Go.Proofs.YtkoegbjnhoecoaaGreatDoor
namespace Go.Proofs.YtkoegbjnhoecoaaGreatDoor
open Go.RowKit Tx

theorem files_take (l : List Wr.F) (k : Nat) (h : k < l.length) : Wr.files (l.take (k + 1)) = Wr.files (l.take k) ++ (Wr.put l[k].1 ++ Wr.put l[k].2) := by
  rw [List.take_succ_eq_append_getElem h, Wr.files_snoc]
theorem files_le (l : List Wr.F) (k : Nat) : (Wr.files (l.take k)).length ≤ (Wr.files l).length := by
  have : Wr.files l = Wr.files (l.take k) ++ Wr.files (l.drop k) := by
    unfold Wr.files
    rw [← List.flatten_append, ← List.map_append, List.take_append_drop]
  rw [this]
  simp
/-- Two cells, in each world behind one. -/
abbrev S2 (w : World) (a0 a1 : Addr) (x y : Bs) (wx : World) : Prop := wx.cell? a0 = some (.string (bs x)) ∧ wx.cell? a1 = some (.string (bs y)) ∧ Below w.heap.size w wx
theorem S2.bel {p q r : Prop} (x : p ∧ q ∧ r) : r := x.2.2
theorem S2.of {w : World} {a0 a1 : Addr} {x y : Bs} (h0 : w.cell? a0 = some (.string (bs x))) (h1 : w.cell? a1 = some (.string (bs y))) (wx : World) (hb : Below w.heap.size w wx) : S2 w a0 a1 x y wx :=
  ⟨(hb.cell (World.block_lt_of_cell? _ _ (by rw [h0]))).trans h0, (hb.cell (World.block_lt_of_cell? _ _ (by rw [h1]))).trans h1, hb⟩

attribute [local go_sem ↓] Go.wp_at_zero Go.wp_at_succ
theorem box_cells {w : World} {x y : Bs} : (w.alloc (.cells #[.string (bs x), .string (bs y)] 29)).cell? ⟨w.heap.size, 0, none⟩ = some (.string (bs x)) ∧ (w.alloc (.cells #[.string (bs x), .string (bs y)] 29)).cell? ⟨w.heap.size, 1, none⟩ = some (.string (bs y)) := by
  constructor
  · rw [cell_of_row _ w.heap.size 0 _ 29 (0, 0) (heap_alloc_new w _)]; rfl
  · rw [cell_of_row _ w.heap.size 1 _ 29 (0, 0) (heap_alloc_new w _)]; rfl
set_option maxRecDepth 100000 in
set_option maxHeartbeats 4000000 in
theorem wFiles_any (v : Value) (l : List Wr.F) (w : World) (hr : RowC 2 ff w w.heap.size v l) (hl : (Wr.files l).length ≤ 10000000) (hg : Gl w) :
    Calls Tryz.prog 24 #[v] w fun e w' => e = .returned (vs (Wr.files l)) ∧ Below w.heap.size w w' := by
  obtain ⟨A, cap, rfl, h1, h2, h3⟩ := hr.shape
  have HC := Lib.hid h3
  have HG := Lib.hid hg
  clear h3 hr hg
  obtain ⟨B, hB⟩ : ∃ B, B = w.heap.size := ⟨_, rfl⟩
  have hfresh : BAt B B (.slice none 0 0) [] (w.alloc (.cells #[.pointer none, .slice none 0 0] 88)) := hB ▸ BAt.fresh w
  have hb0 : Below B w (w.alloc (.cells #[.pointer none, .slice none 0 0] 88)) := hB ▸ (Below.refl _ _).alloc (Nat.le_refl _) _
  have HB := Lib.hid hB
  go_enter Tryz.func24, Tryz.ntmps24
  go_wp2_with fail
  rw [← hB]
  clear hB
  go_loopw [8] (fun i wr => ∃ (k : Nat) (v : Value), k ≤ l.length ∧ i = .int .i64 k ∧ BAt B B v (Lib.byteCells (Wr.files (l.take k))) wr ∧ Below B w wr) (fun i _ => l.length - (RowKit.intOf i).toNat)
  case atStart => exact ⟨0, _, Nat.zero_le _, rfl, hfresh, hb0⟩
  case round =>
    clear hfresh hb0
    obtain ⟨k, v, hk, rfl, hbu, hbel⟩ := hrel
    have hle := hbel.size
    by_cases hlt : k < l.length
    · have hi : (k : Int) < (l.length : Int) := by omega
      have hi0 : (0 : Int) ≤ (k : Int) := by omega
      obtain ⟨b, off, rfl, hbl, hc⟩ := HC.out (by rintro rfl; simp at hlt)
      obtain ⟨c0, c1⟩ := ff_cells (fun i u hu => (hbel.cell (p := ⟨b, off + k * 2 + i, none⟩) (by rw [HB.out]; exact hbl)).trans (hc k hlt i u hu))
      have hle1 := files_le l (k + 1)
      have hft := files_take l k hlt
      rw [hft] at hle1
      have HF := Lib.hid hft
      clear hft hc
      generalize l[k] = f at *
      obtain ⟨x, y⟩ := f
      simp only at c0 c1 HF hle1
      simp only [List.length_append] at hle1
      have hpx : x.length ≤ (Wr.put x).length := by simp [Wr.put]; omega
      have hpy : y.length ≤ (Wr.put y).length := by simp [Wr.put]; omega
      have hx1 : x.length ≤ 1000000000 := by omega
      have hy1 : y.length ≤ 1000000000 := by omega
      obtain ⟨wb, hwb⟩ : ∃ wb, wb = wr.alloc (.cells #[.string (bs x), .string (bs y)] 29) := ⟨_, rfl⟩
      obtain ⟨g, hgs⟩ : ∃ g, g = wr.heap.size := ⟨_, rfl⟩
      have d0 : wb.cell? ⟨g, 0, none⟩ = some (.string (bs x)) := by rw [hwb, hgs]; exact box_cells.1
      have d1 : wb.cell? ⟨g, 1, none⟩ = some (.string (bs y)) := by rw [hwb, hgs]; exact box_cells.2
      have hbw : Below wr.heap.size wr wb := by rw [hwb]; exact (Below.refl _ _).alloc (Nat.le_refl _) _
      have hgb : g < wb.heap.size := World.block_lt_of_cell? wb ⟨g, 0, none⟩ (by rw [d0])
      have hlts := hbu.lt
      have HBU := Lib.hid (hbu.below hbw)
      have HV := Lib.hid (show (B ≠ g) ∧ v.ownBlock ≠ some g from ⟨by omega, fun e => by have := hlts.2 g e; omega⟩)
      have HBW := Lib.hid (show Below B w wb from hbel.trans (hbw.mono (by rw [HB.out]; exact hle)))
      have hBwb : B ≤ wb.heap.size := by rw [HB.out]; exact HBW.out.size
      have HGB := Lib.hid (HG.out.below (HB.out ▸ HBW.out : Below w.heap.size w wb))
      have HS := Lib.hid (S2.of d0 d1)
      have HX := Lib.hid (fun wx hb => wPut_any x wx hx1 (HGB.out.below hb))
      have HY := Lib.hid (fun wx hb => wPut_any y wx hy1 (HGB.out.below hb))
      generalize Wr.put x = px at *
      generalize Wr.put y = py at *
      obtain ⟨acc, hacc⟩ : ∃ acc, acc = Wr.files (l.take k) := ⟨_, rfl⟩
      rw [← hacc] at hle1 HBU
      have HAC := Lib.hid hacc
      clear hacc
      obtain ⟨T1, hT1⟩ : ∃ T, T = px ++ py := ⟨_, rfl⟩
      have o1 : bs px ++ bs py = bs T1 := by rw [hT1, bs_append]
      have p1 : ¬ (9223372036854775807 < (bs px).size + (bs py).size) := by rw [bs_size, bs_size]; omega
      have hT1l : T1.length = px.length + py.length := by rw [hT1]; simp
      have HW : Hid (Lib.byteCells (Wr.files (l.take (k + 1))) = Lib.byteCells acc ++ Lib.strCells (bs T1)) := Lib.hid (by
        rw [HF.out, ← HAC.out, ← hT1, Lib.byteCells_append]; rfl)
      have hsz : (Lib.byteCells acc).length + (bs T1).size ≤ 140737488355328 := by rw [Lib.byteCells_length, bs_size]; omega
      clear hT1 hT1l hle1 hpx hpy hbu hbw hlts d0 d1
      go_upto_region 5 with fail
      rw [← hwb, ← hgs]
      clear hwb hgs c0 c1
      go_region_held3 (fun wx => wx.cell? ⟨g, 0, none⟩ = some (.string (bs x)) ∧ wx.cell? ⟨g, 1, none⟩ = some (.string (bs y))) (first
          | (exact ⟨(World.cell?_of_block (a := ⟨g, 0, none⟩) (hoth g (Nat.lt_of_lt_of_le hgb k2.size) (fun e => HV.out.1 e.symm) HV.out.2)).trans (HS.out _ k2).1, (World.cell?_of_block (a := ⟨g, 1, none⟩) (hoth g (Nat.lt_of_lt_of_le hgb k2.size) (fun e => HV.out.1 e.symm) HV.out.2)).trans (HS.out _ k2).2.1⟩)
          | (exact ⟨(HS.out _ k2).1, (HS.out _ k2).2.1⟩)
          | (exact ⟨(HS.out _ k1).1, (HS.out _ k1).2.1⟩)
          | (exact ⟨(HS.out _ (Below.refl _ _).drew).1, (HS.out _ (Below.refl _ _).drew).2.1⟩)
          | (exact ⟨(HS.out _ (Below.refl _ _)).1, (HS.out _ (Below.refl _ _)).2.1⟩)) (first
        | (go_at_call 41; have y9 := k2; refine (writeString_at B B v (Lib.byteCells acc) (bs T1) _ (HBU.out.below k2) hsz (Nat.le_trans hBwb k2.size)).mono ?_; rintro e x3 ⟨rfl, ⟨v', hv'⟩, hb3, hoth⟩; dsimp only)
        | (go_at_call 46; have y9 := k1; (first | refine (HY.out _ k1).mono ?_ | refine (HX.out _ k1).mono ?_); rintro e x2 ⟨rfl, b1⟩
           have k2 : Below wb.heap.size wb x2 := below_via k1 b1
           clear b1; dsimp only)
        | (go_at_call 46; (first | refine (HX.out _ (Below.refl _ _).drew).mono ?_ | refine (HY.out _ (Below.refl _ _).drew).mono ?_); rintro e x1 ⟨rfl, b1⟩
           have k1 : Below wb.heap.size wb x1 := below_via (Below.refl _ _).drew b1
           clear b1; dsimp only))
      all_goals (go_wp2_with fail)
      all_goals go_roundw
      all_goals first
        | (case rel => exact ⟨k + 1, v', by omega, by go_num, by rw [HW.out]; exact hv', HBW.out.trans ((k2.mono hBwb).trans hb3)⟩)
        | (case measure => simp [RowKit.intOf]; omega)
    · obtain rfl : k = l.length := by omega
      have HT : Hid (l.take l.length = l) := Lib.hid (List.take_length)
      rw [HT.out] at hbu
      have HS := Lib.hid (Tryz.Builder_String_any B B (Wr.files l) wr hbu.is (HB.out ▸ hbel.size))
      clear hbu
      go_wp2_with fail
      refine HS.out.mono ?_
      rintro e x1 ⟨rfl, b1⟩
      go_wp2_with fail
      go_ret
      exact ⟨rfl, HB.out ▸ hbel.trans b1⟩
end Go.Proofs.YtkoegbjnhoecoaaGreatDoor
namespace Go.Proofs.YtkoegbjnhoecoaaGreatDoor
open Go.RowKit

/-- What is appended: nothing (nil), or m elements whose cells are known. -/
def Src (w : World) (size : Nat) (sv : Value) (m : Nat) (news : List Value) : Prop :=
  (sv = .slice none 0 0 ∧ m = 0 ∧ news = []) ∨ ∃ ad c, sv = .slice (some ad) m c ∧ news.length = m * size ∧ ∀ j u, news[j]? = some u → w.cell? (ad.add j) = some u
theorem src_own {w : World} {base : Nat} {e : TypeId} {size n : Nat} {v : Value} {xs : List Value} (h : w.ownsRow base e size v n xs) : Src w size v n xs := by
  rcases h.2 with ⟨rfl, rfl⟩ | ⟨g, cap, cur, rfl, hb, hg, hnc, hcm, hcs, htake⟩
  · exact .inl ⟨rfl, rfl, List.eq_nil_of_length_eq_zero (by have := h.1; omega)⟩
  · exact .inr ⟨⟨g, 0, none⟩, cap, rfl, h.1, h.cells (g := g) rfl⟩

theorem wpList_appRow {P : Program} {w : World} {ops : Array Oper} {rest : List Oper} {o : Oper} {a : Act} {Q : Exit → Act → World → Prop} (hgd : o.guard = none) (s x : Operand) (t : TypeId)
    (ho : o.op = .call { callee := .builtin .append, args := #[s, x], argTypes := #[t, t] })
    (base : Nat) (e : TypeId) (i : TypeInfo) (z : Value) (size bytes : Nat) (ht : P.underlying t = some (.slice e)) (hi : P.info? e = some i) (hz : i.zero = some z)
    (hsize : i.size = size) (hby : i.bytes = bytes) (hzs : z.cells.size = size) (hsz : 0 < size)
    (v : Value) (n : Nat) (xs : List Value) (hs : a.eval s = v) (hown : w.ownsRow base e size v n xs) (hb : base ≤ w.heap.size)
    (sv : Value) (hx : a.eval x = sv) (m : Nat) (news : List Value) (hsrc : Src w size sv m news) (hone : ∀ y ∈ news, y.oneCell' = true)
    (h63 : n + m ≤ maxLen) (hbytes : (n + m) * bytes ≤ 140737488355328)
    (h : ∀ v' w', w'.ownsRow base e size v' (n + m) (xs ++ news) → w.grownBy w' v.ownBlock → (∀ k, v'.ownBlock = some k → v.ownBlock = some k ∨ w.heap.size ≤ k) → wpList P ops Q rest (a.put o.dst v') w') :
    wpList P ops Q (o :: rest) a w := by
  rcases hsrc with ⟨rfl, rfl, rfl⟩ | ⟨ad, c, rfl, hl, hnews⟩
  · refine wpList_append_own_none hgd s x t ho base e i size ht hi v n xs hs hown hx ?_
    exact h v w (by simpa using hown) ⟨rfl, rfl, rfl, Nat.le_refl _, fun _ _ _ => rfl⟩ (fun k hk => .inl hk)
  · obtain ⟨v', w', hr, h2, h3, _⟩ := run_append_own (P := P) w base t o.type e i z size bytes ht hi hz hsize hby hzs hsz v n xs hown ad m c news hl hnews hone h63 hbytes hb
    have h4 := append_own_blk (P := P) w base t o.type e i z size bytes ht hi hz hsize hby hzs hsz v n xs hown ad m c news hl hnews hone h63 hbytes v' w' hr
    refine wpList_plain hgd fun _ hK => ?_
    unfold Oper.wp execOp
    simp only [ho, resolve, invoke, builtin, Sem.run_bind, Sem.run_pure, Result.andThen_ok, List.map_toArray, List.map_cons, List.map_nil, hs, hx, hr]
    exact hK _ _ (h v' w' h2 h3 h4)
end Go.Proofs.YtkoegbjnhoecoaaGreatDoor
namespace Go.Proofs.YtkoegbjnhoecoaaGreatDoor
open Go.RowKit Tx

theorem hd_two (h : Sq.Head) : Sq.hd h = Wr.put (Lib.decDigits h.1) ++ Wr.put (Lib.decDigits h.2) := by simp [Sq.hd, Wr.puts]
set_option maxRecDepth 100000 in
set_option maxHeartbeats 4000000 in
theorem text_any (g z : Nat) (hg : g ≤ 1000000000) (hz : z ≤ 1000000000) (w : World) (hgl : Gl w) :
    Calls Tryz.prog 31 #[.agg #[.int .i64 g, .int .i64 z]] w fun e w' => e = .returned (vs (Sq.hd (g, z))) ∧ Below w.heap.size w w' := by
  rw [hd_two]
  have d1 := dig_len g hg
  have d2 := dig_len z hz
  obtain ⟨W, hW⟩ : ∃ W, W = w.alloc (.cells #[.int .i64 g, .int .i64 z] 57) := ⟨_, rfl⟩
  have hb0 : Below w.heap.size w W := by rw [hW]; exact (Below.refl _ _).alloc (Nat.le_refl _) _
  have hWb : W.heap[w.heap.size]? = some (.cells #[.int .i64 g, .int .i64 z] 57 (0, 0)) := by rw [hW]; exact heap_alloc_new _ _
  have HWB := Lib.hid hWb
  have c0 : W.cell? ⟨w.heap.size, 0, none⟩ = some (.int .i64 g) := by rw [Lib.cell_of_heap hWb]; rfl
  have c1 : W.cell? ⟨w.heap.size, 1, none⟩ = some (.int .i64 z) := by rw [Lib.cell_of_heap hWb]; rfl
  have HGW := Lib.hid (hgl.below hb0)
  have hlt : w.heap.size < W.heap.size := lt_of_block hWb
  have HC := Lib.hid (show ∀ wx, Below W.heap.size W wx → wx.cell? ⟨w.heap.size, 0, none⟩ = some (.int .i64 g) ∧ wx.cell? ⟨w.heap.size, 1, none⟩ = some (.int .i64 z) from fun wx hb => ⟨(hb.cell (p := ⟨w.heap.size, 0, none⟩) hlt).trans c0, (hb.cell (p := ⟨w.heap.size, 1, none⟩) hlt).trans c1⟩)
  have HI1 := Lib.hid (fun wx (hb : Below W.heap.size W wx) => itoa_any g hg wx (HGW.out.below hb))
  have HI2 := Lib.hid (fun wx (hb : Below W.heap.size W wx) => itoa_any z hz wx (HGW.out.below hb))
  have HP1 := Lib.hid (fun wx (hb : Below W.heap.size W wx) => wPut_any (Lib.decDigits g) wx (by omega) (HGW.out.below hb))
  have HP2 := Lib.hid (fun wx (hb : Below W.heap.size W wx) => wPut_any (Lib.decDigits z) wx (by omega) (HGW.out.below hb))
  have HB0 := Lib.hid hb0
  have e1 := dig_len (Lib.decDigits g).length (by omega)
  have e2 := dig_len (Lib.decDigits z).length (by omega)
  have l1 : (Wr.put (Lib.decDigits g)).length ≤ 30 := by simp only [Wr.put, List.length_append, List.length_cons, List.length_nil]; omega
  have l2 : (Wr.put (Lib.decDigits z)).length ≤ 30 := by simp only [Wr.put, List.length_append, List.length_cons, List.length_nil]; omega
  generalize Wr.put (Lib.decDigits g) = p1 at *
  generalize Wr.put (Lib.decDigits z) = p2 at *
  generalize Lib.decDigits g = s1 at *
  generalize Lib.decDigits z = s2 at *
  have o1 : bs p1 ++ bs p2 = bs (p1 ++ p2) := by rw [bs_append]
  have q1 : ¬ (9223372036854775807 < (bs p1).size + (bs p2).size) := by rw [bs_size, bs_size]; omega
  clear hgl hb0 hWb d1 d2 e1 e2 l1 l2
  go_enter Tryz.func31, Tryz.ntmps31
  go_upto_region 1 with fail
  rw [← hW]
  clear hW
  go_region_held3 (fun wx => wx.cell? ⟨w.heap.size, 0, none⟩ = some (.int .i64 g) ∧ wx.cell? ⟨w.heap.size, 1, none⟩ = some (.int .i64 z)) (first | go_keep | exact HC.out _ k4 | exact HC.out _ k3 | exact HC.out _ k2 | exact HC.out _ k1 | exact HC.out _ (Below.refl _ _).drew) (first
    | (go_at_call 46; have yy := k3; refine (HP2.out _ k3).mono ?_; rintro e x4 ⟨rfl, b4⟩; have k4 : Below W.heap.size W x4 := below_via k3 b4; clear b4; dsimp only)
    | (go_at_call 49; have yy := k2; refine (HI2.out _ k2).mono ?_; rintro e x3 ⟨rfl, b3⟩; have k3 : Below W.heap.size W x3 := below_via k2 b3; clear b3; dsimp only)
    | (go_at_call 46; have yy := k1; refine (HP1.out _ k1).mono ?_; rintro e x2 ⟨rfl, b2⟩; have k2 : Below W.heap.size W x2 := below_via k1 b2; clear b2; dsimp only)
    | (go_at_call 49; refine (HI1.out _ (Below.refl _ _).drew).mono ?_; rintro e x1 ⟨rfl, b1⟩; have k1 : Below W.heap.size W x1 := below_via (Below.refl _ _).drew b1; clear b1; dsimp only))
  go_wp2_with fail
  go_ret
  exact ⟨rfl, below_via HB0.out k4⟩

/-- What digits are read as. -/
theorem digit_val (d : Nat) (h : d < 10) : Lib.digitVal (UInt8.ofNat (48 + d)) = some d := by
  have h1 := Wr.dig_byte d h
  unfold Lib.digitVal
  rw [h1, if_pos (by omega)]
  simp
theorem decFrom_snoc (l : List UInt8) : ∀ (acc n : Nat) (b : UInt8) (d : Nat), Lib.decFrom acc l = some n → Lib.digitVal b = some d → Lib.decFrom acc (l ++ [b]) = some (n * 10 + d) := by
  induction l with
  | nil => intro acc n b d h hd; simp only [Lib.decFrom, Option.some.injEq] at h; subst h; simp [Lib.decFrom, hd]
  | cons a t ih =>
    intro acc n b d h hd
    simp only [List.cons_append, Lib.decFrom] at h ⊢
    cases ha : Lib.digitVal a with
    | none => simp [ha] at h
    | some e => simp only [ha] at h ⊢; exact ih _ n b d h hd
theorem decFrom_dig (u : Nat) : Lib.decFrom 0 (Lib.decDigits u) = some u := by
  induction u using Nat.strongRecOn with
  | _ u ih =>
    unfold Lib.decDigits
    split
    · next h =>
      have e := digit_val u h
      generalize UInt8.ofNat (48 + u) = b at e
      simp [Lib.decFrom, e]
    · next h =>
      rw [decFrom_snoc _ 0 (u / 10) _ (u % 10) (ih (u / 10) (by omega)) (digit_val _ (by omega))]
      congr 1
      omega
theorem dig_first (u : Nat) : ∃ (d : Nat) (r : List UInt8), d < 10 ∧ Lib.decDigits u = UInt8.ofNat (48 + d) :: r := by
  induction u using Nat.strongRecOn with
  | _ u ih =>
    unfold Lib.decDigits
    split
    · next h => exact ⟨u, [], h, rfl⟩
    · next h =>
      obtain ⟨d, r, hd, e⟩ := ih (u / 10) (by omega)
      rw [e]
      exact ⟨d, r ++ _, hd, rfl⟩
theorem atoi_dig (u : Nat) : Lib.atoi (Lib.decDigits u) = some (u : Int) := by
  have h1 := decFrom_dig u
  obtain ⟨d, r, hd, e⟩ := dig_first u
  rw [e] at h1 ⊢
  have h2 := Wr.dig_byte d hd
  have n1 : (UInt8.ofNat (48 + d) == 45) = false := beq_eq_false_iff_ne.2 fun h => by rw [h] at h2; have : (45 : UInt8).toNat = 45 := rfl; omega
  have n2 : (UInt8.ofNat (48 + d) == 43) = false := beq_eq_false_iff_ne.2 fun h => by rw [h] at h2; have : (43 : UInt8).toNat = 43 := rfl; omega
  generalize UInt8.ofNat (48 + d) = b at *
  unfold Lib.atoi Lib.decNat
  simp only [n1, n2, h1, List.isEmpty_cons, Bool.false_eq_true, if_false, Option.map_some]
theorem sAtoi_any (u : Nat) (hu : u ≤ 1000000000) (w : World) :
    Calls Tryz.prog 55 #[vs (Lib.decDigits u)] w fun e w' => e = .returned (.tuple #[.int .i64 u, .nilIface]) ∧ Below w.heap.size w w' := by
  have hl := dig_len u hu
  refine (Tryz.strconv_Atoi (bs (Lib.decDigits u)) u (by rw [bs_size]; omega) (by rw [bs_list]; exact atoi_dig u) w).mono ?_
  rintro e w' ⟨rfl, t, rfl⟩
  exact ⟨rfl, rfl, rfl, rfl, by rw [Lib.bytesWorld_size]; omega, fun k hk => Lib.bytesWorld_at_old w _ t k hk⟩

set_option maxRecDepth 100000 in
set_option maxHeartbeats 4000000 in
theorem read_head (h : Sq.Head) (h1 : h.1 ≤ 1000000000) (h2 : h.2 ≤ 1000000000) (w : World) (hg : Gl w) :
    Calls Tryz.prog 39 #[vs (Sq.hd h)] w fun e w' => e = .returned (.agg #[.int .i64 h.1, .int .i64 h.2]) ∧ Below w.heap.size w w' := by
  obtain ⟨W, hW⟩ : ∃ W, W = w.alloc (.cells #[.int .i64 0, .int .i64 0] 57) := ⟨_, rfl⟩
  obtain ⟨R, hR⟩ : ∃ R, R = w.heap.size := ⟨_, rfl⟩
  have hb0 : Below w.heap.size w W := by rw [hW]; exact (Below.refl _ _).alloc (Nat.le_refl _) _
  have hWb : W.heap[R]? = some (.cells #[.int .i64 0, .int .i64 0] 57 (0, 0)) := by rw [hW, hR]; exact heap_alloc_new _ _
  have hl := Sq.hd_len h h1 h2
  have HA := Lib.hid (all_any (Sq.hd h) W (by omega) (hg.below hb0).et)
  have ha := Sq.hd_all h h1 h2
  have e1 : allL (Sq.hd h) = [Lib.decDigits h.1, Lib.decDigits h.2] := by unfold allL; rw [ha]
  have e2 : allE (Sq.hd h) = 0 := by unfold allE; rw [ha]
  have H1 := Lib.hid (fun wx => sAtoi_any h.1 h1 wx)
  have H2 := Lib.hid (fun wx => sAtoi_any h.2 h2 wx)
  have HB0 := Lib.hid hb0
  have HRE := Lib.hid hR
  generalize Lib.decDigits h.1 = s1 at *
  generalize Lib.decDigits h.2 = s2 at *
  generalize Sq.hd h = t at *
  clear hg ha hl hb0
  go_enter Tryz.func39, Tryz.ntmps39
  go_wp2_with fail
  rw [← hW, ← hR]
  clear hW hR
  refine HA.out.mono ?_
  rintro e w1 ⟨b1, v, rfl, P1⟩
  rw [e2]
  rw [e1] at P1
  obtain ⟨A1, p1, rfl, _, _, hc⟩ := P1.shape
  obtain ⟨b, off, rfl, hbl, hc⟩ := hc (by simp)
  have d0 := hc 0 (by simp)
  have d1 := hc 1 (by simp)
  simp only [List.length_cons, List.length_nil, Nat.zero_add, Nat.reduceAdd, Nat.add_zero, List.getElem_cons_zero, List.getElem_cons_succ] at d0 d1 ⊢
  have hR1 := (b1.block R (lt_of_block hWb)).trans hWb
  have HB1 := Lib.hid (below_via HB0.out b1)
  clear P1 hc b1 e1 e2 hWb
  go_wp2_with fail
  refine (H1.out w1).mono ?_
  rintro e w2 ⟨rfl, b2⟩
  have d1' := (b2.cell (p := ⟨b, off + 1, none⟩) hbl).trans d1
  have hR2 := (b2.block R (lt_of_block hR1)).trans hR1
  have HB2 := Lib.hid (below_via HB1.out b2)
  clear d0 d1 b2 hR1
  go_wp2_with fail
  refine (H2.out w2).mono ?_
  rintro e w3 ⟨rfl, b3⟩
  have hR3 := (b3.block R (lt_of_block hR2)).trans hR2
  have HB3 := Lib.hid (below_via HB2.out b3)
  have r0 : w3.cell? ⟨R, 0, none⟩ = some (.int .i64 0) := by rw [Lib.cell_of_heap hR3]; rfl
  have f0 : w3.frozen? ⟨R, 0, none⟩ = false := Lib.frozen_of_heap hR3 0
  have hR4 := fun v => wr_cells_set (j := 0) hR3 v
  have r1 : ∀ v, (w3.setCell ⟨R, 0, none⟩ v).cell? ⟨R, 1, none⟩ = some (.int .i64 0) := fun v => by rw [Lib.cell_of_heap (hR4 v)]; rfl
  have f1 : ∀ v, (w3.setCell ⟨R, 0, none⟩ v).frozen? ⟨R, 1, none⟩ = false := fun v => Lib.frozen_of_heap (hR4 v) 1
  clear d1' b3 hR2
  go_wp2_with fail
  have hR5 := wr_cells_set (j := 1) (wr_cells_set (j := 0) hR3 (.int .i64 h.1)) (.int .i64 h.2)
  have u0 : ((w3.setCell ⟨R, 0, none⟩ (.int .i64 h.1)).setCell ⟨R, 1, none⟩ (.int .i64 h.2)).cell? ⟨R, 0, none⟩ = some (.int .i64 h.1) := by rw [Lib.cell_of_heap hR5]; rfl
  have u1 : ((w3.setCell ⟨R, 0, none⟩ (.int .i64 h.1)).setCell ⟨R, 1, none⟩ (.int .i64 h.2)).cell? ⟨R, 1, none⟩ = some (.int .i64 h.2) := by rw [Lib.cell_of_heap hR5]; rfl
  refine bodyPost_ret (v := .agg #[.int .i64 h.1, .int .i64 h.2]) (by simp [results, Tryz.f39, go_sem, u0, u1]) rfl ?_
  exact ⟨rfl, ((HB3.out.setCell (p := ⟨R, 0, none⟩) (by show w.heap.size ≤ R; rw [HRE.out]; exact Nat.le_refl _) _).setCell (p := ⟨R, 1, none⟩) (by show w.heap.size ≤ R; rw [HRE.out]; exact Nat.le_refl _) _)⟩
set_option maxRecDepth 100000 in
set_option maxHeartbeats 4000000 in
theorem read_none (w : World) (hg : Gl w) :
    Calls Tryz.prog 39 #[vs []] w fun e w' => e = .returned (.agg #[.int .i64 0, .int .i64 0]) ∧ Below w.heap.size w w' := by
  obtain ⟨W, hW⟩ : ∃ W, W = w.alloc (.cells #[.int .i64 0, .int .i64 0] 57) := ⟨_, rfl⟩
  obtain ⟨R, hR⟩ : ∃ R, R = w.heap.size := ⟨_, rfl⟩
  have hb0 : Below w.heap.size w W := by rw [hW]; exact (Below.refl _ _).alloc (Nat.le_refl _) _
  have hWb : W.heap[R]? = some (.cells #[.int .i64 0, .int .i64 0] 57 (0, 0)) := by rw [hW, hR]; exact heap_alloc_new _ _
  have HA := Lib.hid (all_any [] W (by simp) (hg.below hb0).et)
  have e1 : allL [] = [] := by unfold allL; rw [Wr.all_nil]
  have e2 : allE [] = 0 := by unfold allE; rw [Wr.all_nil]
  have HB0 := Lib.hid hb0
  have HRE := Lib.hid hR
  clear hg hb0
  go_enter Tryz.func39, Tryz.ntmps39
  go_wp2_with fail
  rw [← hW, ← hR]
  clear hW hR
  refine HA.out.mono ?_
  rintro e w1 ⟨b1, v, rfl, P1⟩
  rw [e2]
  rw [e1] at P1
  obtain ⟨A1, p1, rfl, _, _, _⟩ := P1.shape
  have hR3 := (b1.block R (lt_of_block hWb)).trans hWb
  have HB3 := Lib.hid (below_via HB0.out b1)
  have r0 : w1.cell? ⟨R, 0, none⟩ = some (.int .i64 0) := by rw [Lib.cell_of_heap hR3]; rfl
  have f0 : w1.frozen? ⟨R, 0, none⟩ = false := Lib.frozen_of_heap hR3 0
  have hR4 := fun v => wr_cells_set (j := 0) hR3 v
  have r1 : ∀ v, (w1.setCell ⟨R, 0, none⟩ v).cell? ⟨R, 1, none⟩ = some (.int .i64 0) := fun v => by rw [Lib.cell_of_heap (hR4 v)]; rfl
  have f1 : ∀ v, (w1.setCell ⟨R, 0, none⟩ v).frozen? ⟨R, 1, none⟩ = false := fun v => Lib.frozen_of_heap (hR4 v) 1
  clear P1 b1 e1 e2 hWb
  go_wp2_with fail
  have hR5 := wr_cells_set (j := 1) (wr_cells_set (j := 0) hR3 (.int .i64 0)) (.int .i64 0)
  have u0 : ((w1.setCell ⟨R, 0, none⟩ (.int .i64 0)).setCell ⟨R, 1, none⟩ (.int .i64 0)).cell? ⟨R, 0, none⟩ = some (.int .i64 0) := by rw [Lib.cell_of_heap hR5]; rfl
  have u1 : ((w1.setCell ⟨R, 0, none⟩ (.int .i64 0)).setCell ⟨R, 1, none⟩ (.int .i64 0)).cell? ⟨R, 1, none⟩ = some (.int .i64 0) := by rw [Lib.cell_of_heap hR5]; rfl
  refine bodyPost_ret (v := .agg #[.int .i64 0, .int .i64 0]) (by simp [results, Tryz.f39, go_sem, u0, u1]) rfl ?_
  exact ⟨rfl, ((HB3.out.setCell (p := ⟨R, 0, none⟩) (by show w.heap.size ≤ R; rw [HRE.out]; exact Nat.le_refl _) _).setCell (p := ⟨R, 1, none⟩) (by show w.heap.size ≤ R; rw [HRE.out]; exact Nat.le_refl _) _)⟩
/-- A head's sector is read as that head. -/
theorem read_any (t : ByteArray) (h : Sq.Head) (ht : Sq.HeadIs t h) (h1 : h.1 ≤ 1000000000) (h2 : h.2 ≤ 1000000000) (w : World) (hg : Gl w) :
    Calls Tryz.prog 39 #[.string t] w fun e w' => e = .returned (.agg #[.int .i64 h.1, .int .i64 h.2]) ∧ Below w.heap.size w w' := by
  rcases ht with ⟨rfl, rfl⟩ | rfl
  · exact read_none w hg
  · exact read_head h h1 h2 w hg
end Go.Proofs.YtkoegbjnhoecoaaGreatDoor
