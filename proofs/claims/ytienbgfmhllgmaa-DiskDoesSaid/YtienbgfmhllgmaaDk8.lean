/- Disks that a call has made itself, beside other blocks R that it has made: what turns, and what does not. -/
import Derived.Test.YtienbgfmhllgmaaRows
import Derived.Test.YtienbgfmhllgmaaKit
import Derived.Test.YtienbgfmhllgmaaDk6
namespace Go.Proofs.Ytienbgfmhllgmaa
open Go.Maps Go.RowKit

namespace Dk
def InR (B : Nat) (w0 w : World) (a : Nat) (s : St) (R : List Nat) : Prop :=
  B ≤ w.heap.size ∧ Below B w0 w ∧ (∀ k ∈ R, k < w.heap.size ∧ B ≤ k) ∧ ∃ F, Of w a s F ∧ ∀ k ∈ F, B ≤ k ∧ k ∉ R
def Same (R : List Nat) (w w' : World) : Prop := ∀ k ∈ R, w'.heap[k]? = w.heap[k]?
theorem InR.does {B : Nat} {w0 w w' : World} {a : Nat} {s' : St} {F R : List Nat} (hB : B ≤ w.heap.size) (hb : Below B w0 w) (hR : ∀ k ∈ R, k < w.heap.size ∧ B ≤ k) (hF : ∀ k ∈ F, B ≤ k ∧ k ∉ R) (h : Does w a F s' w') : InR B w0 w' a s' R ∧ Same R w w' := by
  obtain ⟨F', h1, h2, h3⟩ := h
  refine ⟨⟨Nat.le_trans hB h2.size, hb.trans (h2.below hB (fun k hk => (hF k hk).1)), fun k hk => ⟨Nat.lt_of_lt_of_le (hR k hk).1 h2.size, (hR k hk).2⟩, F', h1, fun k hk => ?_⟩, fun k hk => h2.block k (hR k hk).1 (fun hf => (hF k hf).2 hk)⟩
  rcases h3 k hk with h4 | h4
  · exact hF k h4
  · exact ⟨by omega, fun hr => by have := (hR k hr).1; omega⟩
theorem InR.below {B : Nat} {w0 w w' : World} {a : Nat} {s : St} {R : List Nat} (h : InR B w0 w a s R) (hb : Below w.heap.size w w') : InR B w0 w' a s R ∧ Same R w w' := by
  obtain ⟨hB, hb0, hR, F, h1, h2⟩ := h
  exact ⟨⟨Nat.le_trans hB hb.size, hb0.trans (hb.mono hB), fun k hk => ⟨Nat.lt_of_lt_of_le (hR k hk).1 hb.size, (hR k hk).2⟩, F, h1.below hb, h2⟩, fun k hk => hb.block k (hR k hk).1⟩
theorem InR.turn {B : Nat} {w0 w w' : World} {a : Nat} {s : St} {R R' : List Nat} (h : InR B w0 w a s R) (hm : Moved w w' R) (hR' : ∀ k ∈ R', (k ∈ R ∨ w.heap.size ≤ k) ∧ k < w'.heap.size) : InR B w0 w' a s R' := by
  obtain ⟨hB, hb0, hR, F, h1, h2⟩ := h
  refine ⟨Nat.le_trans hB hm.size, hb0.trans (hm.below hB (fun k hk => (hR k hk).2)), fun k hk => ⟨(hR' k hk).2, ?_⟩, F, h1.moved hm (fun k hk => (h2 k hk).2), fun k hk => ⟨(h2 k hk).1, fun hr => ?_⟩⟩
  · rcases (hR' k hk).1 with h | h
    · exact (hR k h).2
    · omega
  · rcases (hR' k hr).1 with h | h
    · exact (h2 k hk).2 h
    · have := h1.lt k hk
      omega
theorem InR.of_in {B : Nat} {w0 w : World} {a : Nat} {s : St} (h : In B w0 w a s) : InR B w0 w a s [] := by
  obtain ⟨hB, hb0, F, h1, h2⟩ := h
  exact ⟨hB, hb0, by simp, F, h1, fun k hk => ⟨h2 k hk, by simp⟩⟩
theorem InR.to_in {B : Nat} {w0 w : World} {a : Nat} {s : St} {R : List Nat} (h : InR B w0 w a s R) : In B w0 w a s := by
  obtain ⟨hB, hb0, hR, F, h1, h2⟩ := h
  exact ⟨hB, hb0, F, h1, fun k hk => (h2 k hk).1⟩
theorem InR.add {B : Nat} {w0 w : World} {a : Nat} {s : St} {R : List Nat} (h : InR B w0 w a s R) (o : Obj) : InR B w0 (w.alloc o) a s (w.heap.size :: R) :=
  h.turn ((Moved.refl _ _).alloc o) (fun k hk => by
    simp only [List.mem_cons] at hk
    rcases hk with rfl | hk
    · exact ⟨.inr (Nat.le_refl _), by simp⟩
    · exact ⟨.inl hk, by have := (h.2.2.1 k hk).1; simp; omega⟩)

def In2R (B : Nat) (w0 w : World) (a : Nat) (s : St) (b : Nat) (t : St) (R : List Nat) : Prop :=
  B ≤ w.heap.size ∧ Below B w0 w ∧ (∀ k ∈ R, k < w.heap.size ∧ B ≤ k) ∧ ∃ F G, Of w a s F ∧ Of w b t G ∧ (∀ k ∈ F, B ≤ k ∧ k ∉ R) ∧ (∀ k ∈ G, B ≤ k ∧ k ∉ R) ∧ ∀ k ∈ F, k ∉ G
theorem In2R.swap {B : Nat} {w0 w : World} {a b : Nat} {s t : St} {R : List Nat} (h : In2R B w0 w a s b t R) : In2R B w0 w b t a s R := by
  obtain ⟨h1, h2, hR, F, G, h3, h4, h5, h6, h7⟩ := h
  exact ⟨h1, h2, hR, G, F, h4, h3, h6, h5, fun k hk hf => h7 k hf hk⟩
theorem In2R.fst {B : Nat} {w0 w : World} {a b : Nat} {s t : St} {R : List Nat} (h : In2R B w0 w a s b t R) : InR B w0 w a s R := by
  obtain ⟨h1, h2, hR, F, G, h3, h4, h5, h6, h7⟩ := h
  exact ⟨h1, h2, hR, F, h3, h5⟩
theorem In2R.of_in2 {B : Nat} {w0 w : World} {a b : Nat} {s t : St} (h : In2 B w0 w a s b t) : In2R B w0 w a s b t [] := by
  obtain ⟨h1, h2, F, G, h3, h4, h5, h6, h7⟩ := h
  exact ⟨h1, h2, by simp, F, G, h3, h4, fun k hk => ⟨h5 k hk, by simp⟩, fun k hk => ⟨h6 k hk, by simp⟩, h7⟩
theorem In2R.does {B : Nat} {w0 w w' : World} {a b : Nat} {s' t : St} {F G R : List Nat} (hB : B ≤ w.heap.size) (hb : Below B w0 w) (hR : ∀ k ∈ R, k < w.heap.size ∧ B ≤ k) (hF : ∀ k ∈ F, B ≤ k ∧ k ∉ R) (hG : ∀ k ∈ G, B ≤ k ∧ k ∉ R) (hd : ∀ k ∈ F, k ∉ G) (hg : Of w b t G) (h : Does w a F s' w') : In2R B w0 w' a s' b t R ∧ Same R w w' := by
  obtain ⟨F', h1, h2, h3⟩ := h
  refine ⟨⟨Nat.le_trans hB h2.size, hb.trans (h2.below hB (fun k hk => (hF k hk).1)), fun k hk => ⟨Nat.lt_of_lt_of_le (hR k hk).1 h2.size, (hR k hk).2⟩, F', G, h1, hg.moved h2 (fun k hk hf => hd k hf hk), fun k hk => ?_, hG, fun k hk hkg => ?_⟩, fun k hk => h2.block k (hR k hk).1 (fun hf => (hF k hf).2 hk)⟩
  · rcases h3 k hk with h4 | h4
    · exact hF k h4
    · exact ⟨by omega, fun hr => by have := (hR k hr).1; omega⟩
  · rcases h3 k hk with h4 | h4
    · exact hd k h4 hkg
    · have := hg.lt k hkg
      omega
theorem In2R.below {B : Nat} {w0 w w' : World} {a b : Nat} {s t : St} {R : List Nat} (h : In2R B w0 w a s b t R) (hb : Below w.heap.size w w') : In2R B w0 w' a s b t R ∧ Same R w w' := by
  obtain ⟨hB, hb0, hR, F, G, h1, h2, h3, h4, h5⟩ := h
  exact ⟨⟨Nat.le_trans hB hb.size, hb0.trans (hb.mono hB), fun k hk => ⟨Nat.lt_of_lt_of_le (hR k hk).1 hb.size, (hR k hk).2⟩, F, G, h1.below hb, h2.below hb, h3, h4, h5⟩, fun k hk => hb.block k (hR k hk).1⟩
theorem In2R.turn {B : Nat} {w0 w w' : World} {a b : Nat} {s t : St} {R R' : List Nat} (h : In2R B w0 w a s b t R) (hm : Moved w w' R) (hR' : ∀ k ∈ R', (k ∈ R ∨ w.heap.size ≤ k) ∧ k < w'.heap.size) : In2R B w0 w' a s b t R' := by
  obtain ⟨hB, hb0, hR, F, G, h1, h2, h3, h4, h5⟩ := h
  refine ⟨Nat.le_trans hB hm.size, hb0.trans (hm.below hB (fun k hk => (hR k hk).2)), fun k hk => ⟨(hR' k hk).2, ?_⟩, F, G, h1.moved hm (fun k hk => (h3 k hk).2), h2.moved hm (fun k hk => (h4 k hk).2), fun k hk => ⟨(h3 k hk).1, fun hr => ?_⟩, fun k hk => ⟨(h4 k hk).1, fun hr => ?_⟩, h5⟩
  · rcases (hR' k hk).1 with h | h
    · exact (hR k h).2
    · omega
  · rcases (hR' k hr).1 with h | h
    · exact (h3 k hk).2 h
    · have := h1.lt k hk
      omega
  · rcases (hR' k hr).1 with h | h
    · exact (h4 k hk).2 h
    · have := h2.lt k hk
      omega
theorem In2R.add {B : Nat} {w0 w : World} {a b : Nat} {s t : St} {R : List Nat} (h : In2R B w0 w a s b t R) (o : Obj) : In2R B w0 (w.alloc o) a s b t (w.heap.size :: R) :=
  h.turn ((Moved.refl _ _).alloc o) (fun k hk => by
    simp only [List.mem_cons] at hk
    rcases hk with rfl | hk
    · exact ⟨.inr (Nat.le_refl _), by simp⟩
    · exact ⟨.inl hk, by have := (h.2.2.1 k hk).1; simp; omega⟩)
end Dk

section
variable {B : Nat} {w0 w : World} {a b : Nat} {s t : Dk.St} {R : List Nat}
theorem write_inR (r : Int) (i : Int) (u : ByteArray) (h : Dk.InR B w0 w a s R) (hp : s.pend.length < 1000000) (ht : u.size < 1000000) (hi : (Lit.int .i64 i).wf = true) (hr : (Dk.write s i u).1 = r) :
    Calls Try.prog 9 #[.pointer (some ⟨a, 0, none⟩), .int .i64 i, .string u] w fun e w' => e = .returned (.int .i64 r) ∧ Dk.InR B w0 w' a (Dk.write s i u).2 R ∧ Dk.Same R w w' := by
  obtain ⟨hB, hb, hR, F, hF, hF2⟩ := h
  exact (dWrite_any a s F i u w hF hp ht hi).mono fun _ _ ⟨h1, h2⟩ => ⟨hr ▸ h1, Dk.InR.does hB hb hR hF2 h2⟩
theorem write_in2R (r : Int) (i : Int) (u : ByteArray) (h : Dk.In2R B w0 w a s b t R) (hp : s.pend.length < 1000000) (ht : u.size < 1000000) (hi : (Lit.int .i64 i).wf = true) (hr : (Dk.write s i u).1 = r) :
    Calls Try.prog 9 #[.pointer (some ⟨a, 0, none⟩), .int .i64 i, .string u] w fun e w' => e = .returned (.int .i64 r) ∧ Dk.In2R B w0 w' a (Dk.write s i u).2 b t R ∧ Dk.Same R w w' := by
  obtain ⟨hB, hb, hR, F, G, hF, hG, hF2, hG2, hd⟩ := h
  exact (dWrite_any a s F i u w hF hp ht hi).mono fun _ _ ⟨h1, h2⟩ => ⟨hr ▸ h1, Dk.In2R.does hB hb hR hF2 hG2 hd hG h2⟩
theorem sync_in2R (r : Int) (h : Dk.In2R B w0 w a s b t R) (hp : s.pend.length + s.cnt < 1000000) (hr : (Dk.sync s).1 = r) :
    Calls Try.prog 10 #[.pointer (some ⟨a, 0, none⟩)] w fun e w' => e = .returned (.int .i64 r) ∧ Dk.In2R B w0 w' a (Dk.sync s).2 b t R ∧ Dk.Same R w w' := by
  obtain ⟨hB, hb, hR, F, G, hF, hG, hF2, hG2, hd⟩ := h
  exact (dSync_any a s F w hF hp).mono fun _ _ ⟨h1, h2⟩ => ⟨hr ▸ h1, Dk.In2R.does hB hb hR hF2 hG2 hd hG h2⟩
theorem row_low_keep {w w' : World} {B : Nat} {v : Value} {ks : List Bool} {F : List Nat} (hr : Row Value.bool w B v ks) (hB : B ≤ w.heap.size) (hF : ∀ k ∈ F, B ≤ k) (hm : Moved w w' F) : Row Value.bool w' B v ks :=
  hr.keep fun p hp => World.cell?_of_block (hm.block p.block (by omega) (fun hk => by have := hF _ hk; omega))
theorem crash_inR (v : Value) (ks : List Bool) (h : Dk.InR B w0 w a s R) (hp : s.pend.length + s.cnt < 1000000) (hr : Row Value.bool w B v ks) :
    Calls Try.prog 13 #[.pointer (some ⟨a, 0, none⟩), v] w fun e w' => e = .returned (.tuple #[]) ∧ Dk.InR B w0 w' a (Dk.crash s ks) R ∧ Dk.Same R w w' := by
  obtain ⟨hB, hb, hR, F, hF, hF2⟩ := h
  exact (dCrash_any a s F v ks w hF hp (fun w' hm => ⟨B, row_low_keep hr hB (fun k hk => (hF2 k hk).1) hm⟩)).mono fun _ _ ⟨h1, h2⟩ => ⟨h1, Dk.InR.does hB hb hR hF2 h2⟩
theorem crash_in2R (v : Value) (ks : List Bool) (h : Dk.In2R B w0 w a s b t R) (hp : s.pend.length + s.cnt < 1000000) (hr : Row Value.bool w B v ks) :
    Calls Try.prog 13 #[.pointer (some ⟨a, 0, none⟩), v] w fun e w' => e = .returned (.tuple #[]) ∧ Dk.In2R B w0 w' a (Dk.crash s ks) b t R ∧ Dk.Same R w w' := by
  obtain ⟨hB, hb, hR, F, G, hF, hG, hF2, hG2, hd⟩ := h
  exact (dCrash_any a s F v ks w hF hp (fun w' hm => ⟨B, row_low_keep hr hB (fun k hk => (hF2 k hk).1) hm⟩)).mono fun _ _ ⟨h1, h2⟩ => ⟨h1, Dk.In2R.does hB hb hR hF2 hG2 hd hG h2⟩
/-- .. what is kept lies in a row of the call's own, its block among R. -/
theorem crash_own2R (v : Value) (ks : List Bool) (n : Nat) (h : Dk.In2R B w0 w a s b t R) (hp : s.pend.length + s.cnt < 1000000) (hr : w.ownsRow B 4 1 v n (ks.map Value.bool)) (hv : ∀ k, v.ownBlock = some k → k ∈ R) :
    Calls Try.prog 13 #[.pointer (some ⟨a, 0, none⟩), v] w fun e w' => e = .returned (.tuple #[]) ∧ Dk.In2R B w0 w' a (Dk.crash s ks) b t R ∧ Dk.Same R w w' := by
  obtain ⟨hB, hb, hR, F, G, hF, hG, hF2, hG2, hd⟩ := h
  exact (dCrash_any a s F v ks w hF hp (fun w' hm => ⟨_, Row.own (own_heap hr (fun k hk => hm.block k (hR k (hv k hk)).1 (fun hf => (hF2 k hf).2 (hv k hk))))⟩)).mono fun _ _ ⟨h1, h2⟩ => ⟨h1, Dk.In2R.does hB hb hR hF2 hG2 hd hG h2⟩
end
end Go.Proofs.Ytienbgfmhllgmaa
