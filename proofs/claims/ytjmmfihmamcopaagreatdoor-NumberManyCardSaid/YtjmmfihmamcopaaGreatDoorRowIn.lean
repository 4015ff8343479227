/- From what a row's frame tells of an argument to what the walks ask. -/
import Derived.Test.YtjmmfihmamcopaaGreatDoorKit
import Derived.ProofKit
import Derived.OpenShut
namespace Go.Proofs.YtjmmfihmamcopaaGreatDoor
open Go.RowKit

theorem row_of_in {k : IntKind} {w : World} {a : Option Addr} {len cap : Nat} {zs : List Int}
    (h : (a = none ∧ len = 0 ∧ cap = 0 ∧ zs = []) ∨
      ∃ x, a = some x ∧ len ≤ cap ∧ cap ≤ maxLen ∧ zs.length = cap ∧ (∀ i, i < zs.length → w.cell? (x.add i) = some (.int k (zs.getD i 0))) ∧ ∀ n ∈ zs, (Lit.int k n).wf = true) :
    Row (Value.int k) w w.heap.size (.slice a len cap) (zs.take len) := by
  rcases h with ⟨rfl, rfl, rfl, rfl⟩ | ⟨x, rfl, hl, hm, hz, hc, _⟩
  · exact Row.nil _ _ _ _ _ (by decide)
  · by_cases h0 : len = 0
    · subst h0
      simp only [List.take_zero]
      exact Row.nil _ _ _ _ _ hm
    · obtain ⟨b, off, spot⟩ := x
      have h1 := hc 0 (by omega)
      have hspot : spot = none := by simpa [Addr.add] using World.cell?_spot h1
      subst hspot
      have hb : b < w.heap.size := World.block_lt_of_cell? w ⟨b, off, none⟩ (by simpa [Addr.add] using h1)
      have hlen : (zs.take len).length = len := by simp; omega
      refine ⟨cap, by omega, hm, .inr ⟨b, off, by rw [hlen], hb, fun j hj => ?_⟩⟩
      have := hc j (by simp at hj; omega)
      rw [Addr.add_lit] at this
      rw [this]
      have hj2 : j < zs.length := by simp at hj; omega
      simp [hj2]
theorem row_in_wf {k : IntKind} {w : World} {a : Option Addr} {len cap : Nat} {zs : List Int}
    (h : (a = none ∧ len = 0 ∧ cap = 0 ∧ zs = []) ∨
      ∃ x, a = some x ∧ len ≤ cap ∧ cap ≤ maxLen ∧ zs.length = cap ∧ (∀ i, i < zs.length → w.cell? (x.add i) = some (.int k (zs.getD i 0))) ∧ ∀ n ∈ zs, (Lit.int k n).wf = true) :
    ∀ n ∈ zs.take len, (Lit.int k n).wf = true := by
  rcases h with ⟨_, _, _, rfl⟩ | ⟨_, _, _, _, _, _, hw⟩
  · intro n hn; simp at hn
  · exact fun n hn => hw n (List.mem_of_mem_take hn)
end Go.Proofs.YtjmmfihmamcopaaGreatDoor
