/- A map[string]T that the call owns, by what it holds: g. T is any type: an element is its value. -/
import Derived.Maps.Own
import Derived.Maps.OwnOps
import Derived.Maps.Views
import Derived.StringKeys
import Derived.Test.YtjmmfihmamcopaaGreatDoorRows
import Derived.Test.YtjmmfihmamcopaaGreatDoorKit
import Derived.Test.YtjmmfihmamcopaaGreatDoorStr
namespace Go.Proofs.YtjmmfihmamcopaaGreatDoor
open Go.Maps Go.RowKit Tx

/-- an element reads as itself -/
def heldElemS (v : Value) : Option (DataW Value × List MemPlace) := some (.held v, [])
def MapS (w : World) (k : TypeId) (b n : Nat) (g : Bs → Option Value) : Prop :=
  ∃ D : DataW Value, w.ownsMap Tryz.prog k heldElemS b n D ∧ IsMap D ∧ ∀ i : Bs, i.length ≤ maxLen → ∀ z, D.atKey (.string i) z = match g i with | some v => .held v | none => z

theorem MapS.made (w : World) (k : TypeId) : MapS (w.alloc (.map #[] 0)) k w.heap.size 0 fun _ => none :=
  ⟨.map [], World.ownsMap_made _ _ _ _, isMap_empty, fun _ _ _ => rfl⟩
theorem MapS.mono {w : World} {k : TypeId} {b n n' : Nat} {g : Bs → Option Value} (h : MapS w k b n g) (hn : n ≤ n') : MapS w k b n' g := by
  obtain ⟨D, h1, h2⟩ := h
  exact ⟨D, h1.mono hn, h2⟩
theorem MapS.lt {w : World} {k : TypeId} {b n : Nat} {g : Bs → Option Value} (h : MapS w k b n g) : b < w.heap.size := by
  obtain ⟨D, h1, _⟩ := h
  exact h1.lt
theorem MapS.keep {w w' : World} {k : TypeId} {b n : Nat} {g : Bs → Option Value} (h : MapS w k b n g) (hb : w'.heap[b]? = w.heap[b]?) : MapS w' k b n g := by
  obtain ⟨D, ⟨es, clock, h1, h2⟩, h3⟩ := h
  exact ⟨D, ⟨es, clock, hb.trans h1, h2⟩, h3⟩
theorem MapS.below {w w' : World} {k : TypeId} {b n : Nat} {g : Bs → Option Value} (h : MapS w k b n g) (hb : Below w.heap.size w w') : MapS w' k b n g := h.keep (hb.block b h.lt)
theorem MapS.congr {w : World} {k : TypeId} {b n : Nat} {g g' : Bs → Option Value} (h : MapS w k b n g) (hg : ∀ i, g i = g' i) : MapS w k b n g' := by
  rwa [show g' = g from funext fun i => (hg i).symm]

theorem MapS.update {w : World} {k t e : TypeId} {b n : Nat} {g : Bs → Option Value} (h : MapS w k b n g) (hk : Tryz.prog.underlying k = some .string) (ht : Tryz.prog.underlying t = some (.map k e)) (hn : n < maxLen)
    (i : Bs) (hi : i.length ≤ maxLen) (v : Value) :
    ∃ w', (Instr.mapUpdate t (.map (some b)) (.string (bs i)) v).run Tryz.prog w = .ok () w' ∧ MapS w' k b (n + 1) (fun j => if j = i then some v else g j) ∧ w.grownBy w' (some b) := by
  obtain ⟨D, h1, h2, h3⟩ := h
  have hkey : keyOf Tryz.prog k (.string (bs i)) = some (.string i) := by
    have := Go.WideMaps.keyOf_string_mk hk (s := bs i) (by rw [bs_size]; exact hi)
    rwa [bs_list] at this
  obtain ⟨w', hr, ho, hg⟩ := h1.update (string_keyed hk) ht hn hkey (show heldElemS v = some (.held v, []) from rfl)
  refine ⟨w', hr, ⟨_, ho, h2.put _ _, fun j hj z => ?_⟩, hg⟩
  by_cases hji : j = i
  · subst hji
    simp only [if_true]
    exact atKey_put_same h2 ((string_keyed hk).key hkey) _ _
  · simp only [if_neg hji]
    rw [atKey_put_other (by simpa using hji)]
    exact h3 j hj z

theorem MapS.look {w : World} {k t e : TypeId} {b n : Nat} {g : Bs → Option Value} (h : MapS w k b n g) (hk : Tryz.prog.underlying k = some .string) (ht : Tryz.prog.underlying t = some (.map k e)) {z : Value} (hz : (zeroValue e).run Tryz.prog w = .ok z w)
    (c : Bool) (i : Bs) (hi : i.length ≤ maxLen) :
    (Instr.lookup t (.map (some b)) (.string (bs i)) c).run Tryz.prog w = .ok (if c then .tuple #[(g i).getD z, .bool (g i).isSome] else (g i).getD z) w := by
  have hkey : keyOf Tryz.prog k (.string (bs i)) = some (.string i) := by
    have := Go.WideMaps.keyOf_string_mk hk (s := bs i) (by rw [bs_size]; exact hi)
    rwa [bs_list] at this
  obtain ⟨D, ⟨es, clock, hb, F, _, rfl⟩, _, h3⟩ := h
  rcases Maps.fit_look c (string_keyed hk) ht hz hb F hkey with ⟨hrun, _, hat⟩ | ⟨e0, y, _, _, hrun, hRv, hat, _⟩
  · have hgi : g i = none := by
      cases hgi : g i with
      | none => rfl
      | some v =>
        have := (h3 i hi .nil).symm.trans (hat .nil)
        rw [hgi] at this
        cases this
    rw [hrun, hgi]; rfl
  · have hgi : g i = some e0.val := by
      have hy : y = (.held e0.val, []) := by simpa [heldElemS] using hRv.symm
      cases hgi : g i with
      | none =>
        have h4 := (h3 i hi .nil).symm.trans (hat .nil)
        rw [hgi, hy] at h4
        cases h4
      | some v =>
        have h4 := (h3 i hi .nil).symm.trans (hat .nil)
        rw [hgi, hy] at h4
        simpa using h4
    rw [hrun, hgi]; rfl
end Go.Proofs.YtjmmfihmamcopaaGreatDoor
