/- Rows of rows of files, as they come in; StoreMany's road. -/
import Derived.Test.YtkoegbjnhoecoaaGreatDoorH9
namespace Go.Proofs.YtkoegbjnhoecoaaGreatDoor
open Go.RowKit Tx Go.WideShapes

def v1f (v : Value) : List Value := [v]
/-- The slice value v reads as rows of files. -/
def RowF (w : World) (B : Nat) (v : Value) (l : List (List Wr.F)) : Prop :=
  ∃ rs : List Value, RowC 1 v1f w B v rs ∧ rs.length = l.length ∧ ∀ i (h : i < rs.length) (h' : i < l.length), RowC 2 ff w B rs[i] l[i]
section
variable {H : Type} {enc : TypeId × Value → H} {w : World} {base : Nat} {spare : Nat → Bool} {held : Bool} {a : Option Addr} {len cap : Nat} {d : DataW H} {p : List MemPlace}
theorem in_mats (h : DataW.Trod enc Tryz.prog w base spare held 45 (.slice a len cap) d p) :
    ∃ l : List (List Wr.F), l.length = len ∧ RowF w w.heap.size (.slice a len cap) l ∧ ∀ x ∈ l, ∀ f ∈ x, FOk f := by
  haveI : Inhabited Value := ⟨undef⟩
  have hopen : ∃ rs : List Value, rs.length = len ∧ RowC 1 v1f w w.heap.size (.slice a len cap) rs ∧ ∀ r ∈ rs, ∃ x : List Wr.F, RowC 2 ff w w.heap.size r x ∧ ∀ f ∈ x, FOk f := by
    refine rowC_open 1 v1f (fun r => ∃ x : List Wr.F, RowC 2 ff w w.heap.size r x ∧ ∀ f ∈ x, FOk f) Tryz.underlying45 (by kernel_rfl) (by decide) (fun fuel cs y hy => ?_) h
    rcases DataW.trod_slice Tryz.underlying30 hy with ⟨hcs, _⟩ | ⟨x, len', cap', _, _, _, _, hcs, _⟩
    · subst hcs
      obtain ⟨s2, _, r2, ok2⟩ := in_files Tryz.underlying30 Tryz.underlying29 (by kernel_rfl) Tryz.underlying9 (by kernel_rfl) (by kernel_rfl) ⟨fuel, hy⟩
      exact ⟨_, rfl, s2, r2, ok2⟩
    · subst hcs
      obtain ⟨s2, _, r2, ok2⟩ := in_files Tryz.underlying30 Tryz.underlying29 (by kernel_rfl) Tryz.underlying9 (by kernel_rfl) (by kernel_rfl) ⟨fuel, hy⟩
      exact ⟨_, rfl, s2, r2, ok2⟩
  obtain ⟨rs, h1, h2, h3⟩ := hopen
  obtain ⟨g, hg⟩ : ∃ g : Value → List Wr.F, ∀ r ∈ rs, RowC 2 ff w w.heap.size r (g r) ∧ ∀ f ∈ g r, FOk f := ⟨fun r => Classical.epsilon fun x => RowC 2 ff w w.heap.size r x ∧ ∀ f ∈ x, FOk f, fun r hr => Classical.epsilon_spec (h3 r hr)⟩
  refine ⟨rs.map g, by simp [h1], ⟨rs, h2, by simp, fun i h h' => ?_⟩, fun x hx => ?_⟩
  · rw [List.getElem_map]
    exact (hg _ (List.getElem_mem h)).1
  · obtain ⟨r, hr, rfl⟩ := List.mem_map.1 hx
    exact (hg r hr).2
end
theorem and65535 (n : Int) : bits .and .i64 n 65535 = n % 65536 := by
  have h127 : (BitVec.ofInt 64 65535).toNat = 2 ^ 16 - 1 := by decide
  have key : (BitVec.ofInt 64 n &&& BitVec.ofInt 64 65535).toNat = (n % ((2 ^ 64 : Nat) : Int)).toNat % 2 ^ 16 := by
    rw [BitVec.toNat_and, BitVec.toNat_ofInt, h127, Nat.and_two_pow_sub_one_eq_mod]
  show IntKind.i64.wrap ((BitVec.ofInt 64 n &&& BitVec.ofInt 64 65535).toNat : Nat) = n % 65536
  rw [key, IntKind.wrap_i64]
  omega
theorem and63 (n : Int) : bits .and .i64 n 63 = n % 64 := by
  have h127 : (BitVec.ofInt 64 63).toNat = 2 ^ 6 - 1 := by decide
  have key : (BitVec.ofInt 64 n &&& BitVec.ofInt 64 63).toNat = (n % ((2 ^ 64 : Nat) : Int)).toNat % 2 ^ 6 := by
    rw [BitVec.toNat_and, BitVec.toNat_ofInt, h127, Nat.and_two_pow_sub_one_eq_mod]
  show IntKind.i64.wrap ((BitVec.ofInt 64 n &&& BitVec.ofInt 64 63).toNat : Nat) = n % 64
  rw [key, IntKind.wrap_i64]
  omega
theorem roomZ_step (k : Nat) : roomZ (k : Int) ≤ roomZ ((k + 1 : Nat) : Int) ∧ roomZ ((k + 2 : Nat) : Int) ≤ roomZ (k : Int) + 64 := by
  unfold roomZ Sq.half
  constructor
  · split <;> split <;> omega
  · split <;> split <;> omega
end Go.Proofs.YtkoegbjnhoecoaaGreatDoor
