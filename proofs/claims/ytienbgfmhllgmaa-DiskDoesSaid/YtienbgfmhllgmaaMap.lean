/- A map[int]T that the call owns, by what it holds: g. T is any type: an element is its value. -/
import Derived.Maps.Own
import Derived.Maps.OwnOps
import Derived.Maps.Views
import Derived.Test.YtienbgfmhllgmaaRows
import Derived.Test.YtienbgfmhllgmaaKit
namespace Go.Proofs.Ytienbgfmhllgmaa
open Go.Maps Go.RowKit

/-- an element reads as itself -/
def heldElem (v : Value) : Option (DataW Value × List MemPlace) := some (.held v, [])
def MapOf (w : World) (k : TypeId) (b n : Nat) (g : Int → Option Value) : Prop :=
  ∃ D : DataW Value, w.ownsMap Try.prog k heldElem b n D ∧ IsMap D ∧ ∀ i, (Lit.int .i64 i).wf = true → ∀ z, D.atKey (.int .i64 i) z = match g i with | some v => .held v | none => z

theorem MapOf.made (w : World) (k : TypeId) : MapOf (w.alloc (.map #[] 0)) k w.heap.size 0 fun _ => none :=
  ⟨.map [], World.ownsMap_made _ _ _ _, isMap_empty, fun _ _ _ => rfl⟩
theorem MapOf.mono {w : World} {k : TypeId} {b n n' : Nat} {g : Int → Option Value} (h : MapOf w k b n g) (hn : n ≤ n') : MapOf w k b n' g := by
  obtain ⟨D, h1, h2⟩ := h
  exact ⟨D, h1.mono hn, h2⟩
theorem MapOf.lt {w : World} {k : TypeId} {b n : Nat} {g : Int → Option Value} (h : MapOf w k b n g) : b < w.heap.size := by
  obtain ⟨D, h1, _⟩ := h
  exact h1.lt
theorem MapOf.keep {w w' : World} {k : TypeId} {b n : Nat} {g : Int → Option Value} (h : MapOf w k b n g) (hb : w'.heap[b]? = w.heap[b]?) : MapOf w' k b n g := by
  obtain ⟨D, ⟨es, clock, h1, h2⟩, h3⟩ := h
  exact ⟨D, ⟨es, clock, hb.trans h1, h2⟩, h3⟩
theorem MapOf.alloc {w : World} {k : TypeId} {b n : Nat} {g : Int → Option Value} (h : MapOf w k b n g) (o : Obj) : MapOf (w.alloc o) k b n g := by
  obtain ⟨D, h1, h2⟩ := h
  exact ⟨D, h1.alloc o, h2⟩
theorem MapOf.congr {w : World} {k : TypeId} {b n : Nat} {g g' : Int → Option Value} (h : MapOf w k b n g) (hg : ∀ i, g i = g' i) : MapOf w k b n g' := by
  rwa [show g' = g from funext fun i => (hg i).symm]

theorem MapOf.update {w : World} {k t e : TypeId} {b n : Nat} {g : Int → Option Value} (h : MapOf w k b n g) (hk : Try.prog.underlying k = some (.int .i64)) (ht : Try.prog.underlying t = some (.map k e)) (hn : n < maxLen)
    (i : Int) (hi : (Lit.int .i64 i).wf = true) (v : Value) :
    ∃ w', (Instr.mapUpdate t (.map (some b)) (.int .i64 i) v).run Try.prog w = .ok () w' ∧ MapOf w' k b (n + 1) (fun j => if j = i then some v else g j) ∧ w.grownBy w' (some b) := by
  obtain ⟨D, h1, h2, h3⟩ := h
  obtain ⟨w', hr, ho, hg⟩ := h1.update (int_keyed hk) ht hn (keyOf_int_mk hk hi) (show heldElem v = some (.held v, []) from rfl)
  refine ⟨w', hr, ⟨_, ho, h2.put _ _, fun j hj z => ?_⟩, hg⟩
  by_cases hji : j = i
  · subst hji
    simp only [if_true]
    exact atKey_put_same h2 ((int_keyed hk).key (keyOf_int_mk hk hi)) _ _
  · simp only [if_neg hji]
    rw [atKey_put_other (by simpa using hji)]
    exact h3 j hj z

theorem MapOf.look {w : World} {k t e : TypeId} {b n : Nat} {g : Int → Option Value} (h : MapOf w k b n g) (hk : Try.prog.underlying k = some (.int .i64)) (ht : Try.prog.underlying t = some (.map k e)) {z : Value} (hz : (zeroValue e).run Try.prog w = .ok z w)
    (c : Bool) (i : Int) (hi : (Lit.int .i64 i).wf = true) :
    (Instr.lookup t (.map (some b)) (.int .i64 i) c).run Try.prog w = .ok (if c then .tuple #[(g i).getD z, .bool (g i).isSome] else (g i).getD z) w := by
  obtain ⟨D, ⟨es, clock, hb, F, _, rfl⟩, _, h3⟩ := h
  rcases Maps.fit_look c (int_keyed hk) ht hz hb F (keyOf_int_mk hk hi) with ⟨hrun, _, hat⟩ | ⟨e0, y, _, _, hrun, hRv, hat, _⟩
  · have hgi : g i = none := by
      cases hgi : g i with
      | none => rfl
      | some v =>
        have := (h3 i hi .nil).symm.trans (hat .nil)
        rw [hgi] at this
        cases this
    rw [hrun, hgi]; rfl
  · have hgi : g i = some e0.val := by
      have hy : y = (.held e0.val, []) := by simpa [heldElem] using hRv.symm
      cases hgi : g i with
      | none =>
        have h4 := (h3 i hi .nil).symm.trans (hat .nil)
        rw [hgi, hy] at h4
        cases h4
      | some v =>
        have h4 := (h3 i hi .nil).symm.trans (hat .nil)
        rw [hgi, hy] at h4
        simpa using h4
    rw [hrun, hgi]; rfl
end Go.Proofs.Ytienbgfmhllgmaa
