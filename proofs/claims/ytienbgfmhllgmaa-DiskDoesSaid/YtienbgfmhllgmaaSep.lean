/- What a call owns, in parts that lie apart: a part is a predicate over a world and a list of its blocks. -/
import Derived.Test.YtienbgfmhllgmaaRows
import Derived.Test.YtienbgfmhllgmaaKit
import Derived.Test.YtienbgfmhllgmaaDk2
namespace Go.Proofs.Ytienbgfmhllgmaa
open Go.RowKit

structure HP where
  p : World → List Nat → Prop
  lt : ∀ w F, p w F → ∀ k ∈ F, k < w.heap.size
  keep : ∀ w w' F, p w F → (∀ k ∈ F, w'.heap[k]? = w.heap[k]?) → p w' F

namespace HP
/-- P and Q, in blocks apart. -/
def sep (P Q : HP) : HP where
  p w F := ∃ F1 F2, F = F1 ++ F2 ∧ P.p w F1 ∧ Q.p w F2 ∧ ∀ k ∈ F1, k ∉ F2
  lt w F h := by
    obtain ⟨F1, F2, rfl, h1, h2, _⟩ := h
    intro k hk
    rcases List.mem_append.1 hk with hk | hk
    · exact P.lt w F1 h1 k hk
    · exact Q.lt w F2 h2 k hk
  keep w w' F h hk := by
    obtain ⟨F1, F2, rfl, h1, h2, h3⟩ := h
    exact ⟨F1, F2, rfl, P.keep w w' F1 h1 (fun k hm => hk k (List.mem_append_left _ hm)), Q.keep w w' F2 h2 (fun k hm => hk k (List.mem_append_right _ hm)), h3⟩
infixr:35 " ⊗ " => sep

/-- What a call does to a part. -/
def Does (P' : HP) (w : World) (F : List Nat) (w' : World) : Prop := ∃ F', P'.p w' F' ∧ Moved w w' F ∧ ∀ k ∈ F', k ∈ F ∨ w.heap.size ≤ k
theorem Does.refl {P : HP} {w : World} {F : List Nat} (h : P.p w F) : Does P w F w := ⟨F, h, Moved.refl _ _, fun _ hk => .inl hk⟩
theorem keep_below {P : HP} {w w' : World} {F : List Nat} (h : P.p w F) (hb : Below w.heap.size w w') : P.p w' F := P.keep w w' F h (fun k hk => hb.block k (P.lt w F h k hk))
theorem keep_moved {P : HP} {w w' : World} {F G : List Nat} (h : P.p w F) (hm : Moved w w' G) (hd : ∀ k ∈ F, k ∉ G) : P.p w' F := P.keep w w' F h (fun k hk => hm.block k (P.lt w F h k hk) (hd k hk))
theorem Does.below {P : HP} {w w' : World} {F : List Nat} (h : P.p w F) (hb : Below w.heap.size w w') : Does P w F w' := ⟨F, keep_below h hb, Moved.of_below hb F, fun _ hk => .inl hk⟩
/-- A part does not turn where the other one does. -/
theorem frame {P' Q : HP} {w w' : World} {F1 F2 : List Nat} (hq : Q.p w F2) (hd : ∀ k ∈ F1, k ∉ F2) (h : Does P' w F1 w') : Does (P' ⊗ Q) w (F1 ++ F2) w' := by
  obtain ⟨F', h1, hm, h3⟩ := h
  refine ⟨F' ++ F2, ⟨F', F2, rfl, h1, keep_moved hq hm (fun k hk hk' => hd k hk' hk), fun k hk hk2 => ?_⟩, hm.more (fun k hk => List.mem_append_left _ hk), fun k hk => ?_⟩
  · rcases h3 k hk with h4 | h4
    · exact hd k h4 hk2
    · have := Q.lt w F2 hq k hk2; omega
  · rcases List.mem_append.1 hk with hk | hk
    · rcases h3 k hk with h4 | h4
      · exact .inl (List.mem_append_left _ h4)
      · exact .inr h4
    · exact .inl (List.mem_append_right _ hk)

/-- P holds P'. -/
def Has (P Q : HP) : Prop := ∀ w F, P.p w F → ∃ G, Q.p w G ∧ ∀ k ∈ G, k ∈ F
theorem Has.refl (P : HP) : Has P P := fun _ F h => ⟨F, h, fun _ hk => hk⟩
theorem Has.trans {P Q R : HP} (h : Has P Q) (h' : Has Q R) : Has P R := fun w F hp => by
  obtain ⟨G, hg, h1⟩ := h w F hp
  obtain ⟨K, hk, h2⟩ := h' w G hg
  exact ⟨K, hk, fun k hk' => h1 k (h2 k hk')⟩
theorem Has.fst (P Q : HP) : Has (P ⊗ Q) P := fun w F ⟨F1, F2, e, h1, _, _⟩ => ⟨F1, h1, fun k hk => by rw [e]; exact List.mem_append_left _ hk⟩
theorem Has.snd (P Q : HP) : Has (P ⊗ Q) Q := fun w F ⟨F1, F2, e, _, h2, _⟩ => ⟨F2, h2, fun k hk => by rw [e]; exact List.mem_append_right _ hk⟩
theorem Has.comm (P Q : HP) : Has (P ⊗ Q) (Q ⊗ P) := fun w F ⟨F1, F2, e, h1, h2, h3⟩ => ⟨F2 ++ F1, ⟨F2, F1, rfl, h2, h1, fun k hk hk' => h3 k hk' hk⟩, fun k hk => by rw [e]; simpa [or_comm] using hk⟩
theorem Has.mono {P P' Q Q' : HP} (h : Has P P') (h' : Has Q Q') : Has (P ⊗ Q) (P' ⊗ Q') := fun w F ⟨F1, F2, e, h1, h2, h3⟩ => by
  obtain ⟨G1, g1, i1⟩ := h w F1 h1
  obtain ⟨G2, g2, i2⟩ := h' w F2 h2
  refine ⟨G1 ++ G2, ⟨G1, G2, rfl, g1, g2, fun k hk hk' => h3 k (i1 k hk) (i2 k hk')⟩, fun k hk => ?_⟩
  rw [e]
  rcases List.mem_append.1 hk with hk | hk
  · exact List.mem_append_left _ (i1 k hk)
  · exact List.mem_append_right _ (i2 k hk)
theorem Has.assoc (P Q R : HP) : Has ((P ⊗ Q) ⊗ R) (P ⊗ (Q ⊗ R)) := by
  rintro w F ⟨F12, F3, rfl, ⟨F1, F2, rfl, h1, h2, h4⟩, h3, h5⟩
  refine ⟨F1 ++ (F2 ++ F3), ⟨F1, F2 ++ F3, rfl, h1, ⟨F2, F3, rfl, h2, h3, fun k hk => h5 k (List.mem_append_right _ hk)⟩, fun k hk hk' => ?_⟩, fun k hk => by simpa [or_assoc] using hk⟩
  rcases List.mem_append.1 hk' with hk' | hk'
  · exact h4 k hk hk'
  · exact h5 k (List.mem_append_left _ hk) hk'
theorem Has.assoc' (P Q R : HP) : Has (P ⊗ (Q ⊗ R)) ((P ⊗ Q) ⊗ R) := by
  rintro w F ⟨F1, F23, rfl, h1, ⟨F2, F3, rfl, h2, h3, h4⟩, h5⟩
  refine ⟨(F1 ++ F2) ++ F3, ⟨F1 ++ F2, F3, rfl, ⟨F1, F2, rfl, h1, h2, fun k hk hk' => h5 k hk (List.mem_append_left _ hk')⟩, h3, fun k hk hk' => ?_⟩, fun k hk => by simpa [or_assoc] using hk⟩
  rcases List.mem_append.1 hk with hk | hk
  · exact h5 k hk (List.mem_append_right _ hk')
  · exact h4 k hk hk'
/-- The first two change places. -/
theorem Has.rot (P Q R : HP) : Has (P ⊗ (Q ⊗ R)) (Q ⊗ (P ⊗ R)) := (Has.assoc' P Q R).trans ((Has.mono (Has.comm P Q) (Has.refl R)).trans (Has.assoc Q P R))

/-- What the call owns behind B. -/
def Own (B : Nat) (w0 w : World) (P : HP) : Prop := ∃ F, P.p w F ∧ (∀ k ∈ F, B ≤ k) ∧ Below B w0 w ∧ B ≤ w.heap.size
theorem Own.bel {B : Nat} {w0 w : World} {P : HP} (h : Own B w0 w P) : Below B w0 w := h.elim fun _ h => h.2.2.1
theorem Own.size {B : Nat} {w0 w : World} {P : HP} (h : Own B w0 w P) : B ≤ w.heap.size := h.elim fun _ h => h.2.2.2
theorem Own.has {B : Nat} {w0 w : World} {P Q : HP} (h : Own B w0 w P) (hq : Has P Q) : Own B w0 w Q := by
  obtain ⟨F, h1, h2, h3⟩ := h
  obtain ⟨G, h4, h5⟩ := hq w F h1
  exact ⟨G, h4, fun k hk => h2 k (h5 k hk), h3⟩
theorem Own.below {B : Nat} {w0 w w' : World} {P : HP} (h : Own B w0 w P) (hb : Below w.heap.size w w') : Own B w0 w' P := by
  obtain ⟨F, h1, h2, h3, h4⟩ := h
  exact ⟨F, keep_below h1 hb, h2, h3.trans (hb.mono h4), Nat.le_trans h4 hb.size⟩
theorem Own.alloc {B : Nat} {w0 w : World} {P : HP} (h : Own B w0 w P) (o : Obj) : Own B w0 (w.alloc o) P := h.below ((Below.refl _ _).alloc (Nat.le_refl _) o)
theorem Own.drewN {B : Nat} {w0 w : World} {P : HP} (h : Own B w0 w P) (n : Nat) : Own B w0 (w.drewN n) P := h.below (below_drewN (Below.refl _ _) n)
theorem Own.does {B : Nat} {w0 w w' : World} {P P' Q : HP} (h : Own B w0 w (P ⊗ Q)) (hd : ∀ F, P.p w F → (∀ k ∈ F, B ≤ k) → Does P' w F w') : Own B w0 w' (P' ⊗ Q) := by
  obtain ⟨F, ⟨F1, F2, rfl, h1, h2, h3⟩, hB, hb, hs⟩ := h
  obtain ⟨F', h4, hm, h5⟩ := frame h2 h3 (hd F1 h1 (fun k hk => hB k (List.mem_append_left _ hk)))
  refine ⟨F', h4, fun k hk => ?_, hb.trans (hm.below hs hB), Nat.le_trans hs hm.size⟩
  rcases h5 k hk with h6 | h6
  · exact hB k h6
  · exact Nat.le_trans hs h6
/-- A call that does something to a part, beside another one. -/
theorem call {B : Nat} {w0 w : World} {P P' Q : HP} {f : Nat} {args : Array Value} {R : Ending → Prop} (h : Own B w0 w (P ⊗ Q))
    (hc : ∀ F, P.p w F → (∀ k ∈ F, B ≤ k) → Calls Try.prog f args w fun e w' => R e ∧ Does P' w F w') : Calls Try.prog f args w fun e w' => R e ∧ Own B w0 w' (P' ⊗ Q) := by
  obtain ⟨F, ⟨F1, F2, rfl, h1, h2, h3⟩, hB, hb, hs⟩ := h
  refine (hc F1 h1 (fun k hk => hB k (List.mem_append_left _ hk))).mono fun e w' ⟨hr, hd⟩ => ⟨hr, ?_⟩
  obtain ⟨F', h4, hm, h5⟩ := frame h2 h3 hd
  refine ⟨F', h4, fun k hk => ?_, hb.trans (hm.below hs hB), Nat.le_trans hs hm.size⟩
  rcases h5 k hk with h6 | h6
  · exact hB k h6
  · exact Nat.le_trans hs h6
/-- A call that reads a part. -/
theorem look {B : Nat} {w0 w : World} {P Q : HP} {f : Nat} {args : Array Value} {R : Ending → World → Prop} (h : Own B w0 w (P ⊗ Q))
    (hc : ∀ F, P.p w F → Calls Try.prog f args w R) : Calls Try.prog f args w R := by
  obtain ⟨F, ⟨F1, F2, rfl, h1, h2, h3⟩, hB, hb, hs⟩ := h
  exact hc F1 h1
end HP
end Go.Proofs.Ytienbgfmhllgmaa
