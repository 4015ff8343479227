/- Slices whose elements are n cells each, as they come in. -/
import Derived.Test.YtjmmfihmamcopaaGreatDoorKit
import Derived.Test.YtjmmfihmamcopaaGreatDoorRowIn
import Derived.ProofKit
import Derived.OpenShut
namespace Go.Proofs.YtjmmfihmamcopaaGreatDoor
open Go.RowKit

/-- The slice value v reads as the list xs, an element in n cells, written by f, below block B. -/
def RowC {α : Type} (n : Nat) (f : α → List Value) (w : World) (B : Nat) (v : Value) (xs : List α) : Prop :=
  ∃ cap, xs.length ≤ cap ∧ cap ≤ maxLen ∧
    ((xs = [] ∧ ∃ A, v = .slice A 0 cap) ∨
     (∃ b off, v = .slice (some ⟨b, off, none⟩) xs.length cap ∧ b < B ∧ ∀ j (h : j < xs.length) i u, (f xs[j])[i]? = some u → w.cell? ⟨b, off + j * n + i, none⟩ = some u))

section
variable {α : Type} {n : Nat} {f : α → List Value} {w w' : World} {B B' : Nat} {v : Value} {xs : List α}
theorem RowC.below {C : Nat} (h : RowC n f w B v xs) (hb : Below C w w') (hB : B ≤ C) : RowC n f w' B v xs := by
  obtain ⟨cap, h1, h2, h3⟩ := h
  refine ⟨cap, h1, h2, ?_⟩
  rcases h3 with h3 | ⟨b, off, hv, hlt, hc⟩
  · exact .inl h3
  · exact .inr ⟨b, off, hv, hlt, fun j hj i u hu => (hb.cell (p := ⟨b, off + j * n + i, none⟩) (Nat.lt_of_lt_of_le hlt hB)).trans (hc j hj i u hu)⟩
theorem RowC.shape (h : RowC n f w B v xs) : ∃ A cap, v = .slice A xs.length cap ∧ xs.length ≤ cap ∧ cap ≤ 9223372036854775807 ∧
    (xs ≠ [] → ∃ b off, A = some ⟨b, off, none⟩ ∧ b < B ∧ ∀ j (h : j < xs.length) i u, (f xs[j])[i]? = some u → w.cell? ⟨b, off + j * n + i, none⟩ = some u) := by
  obtain ⟨cap, h1, h2, h3⟩ := h
  have h2' : cap ≤ 9223372036854775807 := by simpa [maxLen] using h2
  rcases h3 with ⟨rfl, A, rfl⟩ | ⟨b, off, rfl, hb, hc⟩
  · exact ⟨A, cap, rfl, by simp, h2', fun h => absurd rfl h⟩
  · exact ⟨_, cap, rfl, h1, h2', fun _ => ⟨b, off, rfl, hb, hc⟩⟩
theorem RowC.row {g : α → Value} (h : RowC 1 (fun a => [g a]) w B v xs) : Row g w B v xs := by
  obtain ⟨cap, h1, h2, h3⟩ := h
  refine ⟨cap, h1, h2, ?_⟩
  rcases h3 with h3 | ⟨b, off, hv, hlt, hc⟩
  · exact .inl h3
  · exact .inr ⟨b, off, hv, hlt, fun j hj => by simpa using hc j hj 0 _ rfl⟩
end

theorem rowC_open {H : Type} {enc : TypeId × Value → H} {P : Program} {w : World} {base : Nat} {spare : Nat → Bool} {held : Bool} {t e : TypeId} {α : Type} [Inhabited α] (n : Nat) (f : α → List Value) (Ok : α → Prop)
    (ht : P.underlying t = some (.slice e)) (hc : P.cellsOf e = n) (hn : 0 < n)
    (hread : ∀ fuel cs y, DataW.trod enc P w base spare held fuel e cs = some y → ∃ a, cs = f a ∧ Ok a)
    {a : Option Addr} {len cap : Nat} {d : DataW H} {p : List MemPlace} (h : DataW.Trod enc P w base spare held t (.slice a len cap) d p) :
    ∃ xs : List α, xs.length = len ∧ RowC n f w w.heap.size (.slice a len cap) xs ∧ ∀ x ∈ xs, Ok x := by
  obtain ⟨fuel, h⟩ := h
  rcases DataW.trod_slice ht h with ⟨hcs, _⟩ | ⟨x, len', cap', elems, rest, m, _, hcs, _, hb, hl, hm, hlen, hel, _, _⟩
  · simp [Value.cells] at hcs
    obtain ⟨rfl, rfl, rfl⟩ := hcs
    exact ⟨[], rfl, ⟨0, by simp, by decide, .inl ⟨rfl, none, rfl⟩⟩, by simp⟩
  · simp [Value.cells] at hcs
    obtain ⟨rfl, rfl, rfl⟩ := hcs
    have each : ∀ i, i < len → ∃ y, Ok y ∧ (f y).length = n ∧ ∀ j u, (f y)[j]? = some u → w.cell? ((x.add (i * n)).add j) = some u := by
      intro i hi
      have h1 := hel i hi
      rw [hc, List.getElem?_eq_getElem (by omega)] at h1
      obtain ⟨cs, h2, h3⟩ := Option.bind_eq_some_iff.1 h1
      obtain ⟨y, rfl, hy⟩ := hread _ _ _ h3
      obtain ⟨_, h4, h5⟩ := World.cells?_some h2
      refine ⟨y, hy, h4, fun j u hj => ?_⟩
      have hjn : j < n := by
        have := (List.getElem?_eq_some_iff.1 hj).1
        omega
      rw [h5 j hjn, hj]
    let g : Nat → α := fun i => if hi : i < len then Classical.choose (each i hi) else default
    have hg : ∀ i (hi : i < len), Ok (g i) ∧ (f (g i)).length = n ∧ ∀ j u, (f (g i))[j]? = some u → w.cell? ((x.add (i * n)).add j) = some u := by
      intro i hi
      have := Classical.choose_spec (each i hi)
      simp only [g, dif_pos hi]
      exact this
    refine ⟨(List.range len).map g, by simp, ?_, ?_⟩
    · by_cases h0 : len = 0
      · subst h0
        exact ⟨cap, by simp, hm, .inl ⟨by simp, some x, rfl⟩⟩
      · obtain ⟨b, off, spot⟩ := x
        have h1 := hg 0 (by omega)
        have h2 := h1.2.2 0 _ (List.getElem?_eq_getElem (by omega))
        have hspot : spot = none := by simpa [Addr.add] using World.cell?_spot h2
        subst hspot
        have hlt : b < w.heap.size := World.block_lt_of_cell? w ⟨b, off, none⟩ (by simpa [Addr.add] using h2)
        refine ⟨cap, by simpa using hl, hm, .inr ⟨b, off, by simp, hlt, fun j hj i u hu => ?_⟩⟩
        simp at hj
        have := (hg j hj).2.2 i u (by simpa using hu)
        rw [Addr.add_lit, Addr.add_lit] at this
        exact this
    · intro y hy
      simp at hy
      obtain ⟨i, hi, rfl⟩ := hy
      exact (hg i hi).1

section
variable {H : Type} {enc : TypeId × Value → H} {P : Program} {w : World} {base : Nat} {spare : Nat → Bool} {held : Bool} {t e : TypeId} {a : Option Addr} {len cap : Nat} {d : DataW H} {p : List MemPlace}
theorem in_strings (ht : P.underlying t = some (.slice e)) (he : P.underlying e = some .string) (hc : P.cellsOf e = 1) (h : DataW.Trod enc P w base spare held t (.slice a len cap) d p) :
    ∃ xs : List ByteArray, xs.length = len ∧ Row Value.string w w.heap.size (.slice a len cap) xs ∧ ∀ x ∈ xs, x.size ≤ maxLen := by
  obtain ⟨xs, h1, h2, h3⟩ := rowC_open 1 (fun s : ByteArray => [Value.string s]) (fun s => s.size ≤ maxLen) ht hc (by decide) (fun fuel cs y hy => by obtain ⟨s, h1, _, h2⟩ := DataW.trod_string he hy; exact ⟨s, h1, h2⟩) h
  exact ⟨xs, h1, h2.row, h3⟩
theorem in_bools (ht : P.underlying t = some (.slice e)) (he : P.underlying e = some .bool) (hc : P.cellsOf e = 1) (h : DataW.Trod enc P w base spare held t (.slice a len cap) d p) :
    ∃ xs : List Bool, xs.length = len ∧ Row Value.bool w w.heap.size (.slice a len cap) xs := by
  obtain ⟨xs, h1, h2, _⟩ := rowC_open 1 (fun s : Bool => [Value.bool s]) (fun _ => True) ht hc (by decide) (fun fuel cs y hy => by obtain ⟨s, h1, _⟩ := DataW.trod_bool he hy; exact ⟨s, h1, trivial⟩) h
  exact ⟨xs, h1, h2.row⟩
theorem in_ints {k : IntKind} (ht : P.underlying t = some (.slice e)) (he : P.underlying e = some (.int k)) (hc : P.cellsOf e = 1) (h : DataW.Trod enc P w base spare held t (.slice a len cap) d p) :
    ∃ xs : List Int, xs.length = len ∧ Row (Value.int k) w w.heap.size (.slice a len cap) xs ∧ ∀ x ∈ xs, (Lit.int k x).wf = true := by
  obtain ⟨xs, h1, h2, h3⟩ := rowC_open 1 (fun s : Int => [Value.int k s]) (fun s => (Lit.int k s).wf = true) ht hc (by decide) (fun fuel cs y hy => by obtain ⟨s, h1, _, h2⟩ := DataW.trod_int he hy; exact ⟨s, h1, h2⟩) h
  exact ⟨xs, h1, h2.row, h3⟩
/-- [][2]K, K an integer kind -/
theorem in_pairs {k : IntKind} {q : TypeId} (ht : P.underlying t = some (.slice e)) (he : P.underlying e = some (.array 2 q)) (hq : P.underlying q = some (.int k)) (hc : P.cellsOf e = 2) (hcq : P.cellsOf q = 1) (h : DataW.Trod enc P w base spare held t (.slice a len cap) d p) :
    ∃ xs : List (Int × Int), xs.length = len ∧ RowC 2 (fun x : Int × Int => [Value.int k x.1, Value.int k x.2]) w w.heap.size (.slice a len cap) xs ∧ ∀ x ∈ xs, (Lit.int k x.1).wf = true ∧ (Lit.int k x.2).wf = true := by
  refine rowC_open 2 (fun x : Int × Int => [Value.int k x.1, Value.int k x.2]) (fun x => (Lit.int k x.1).wf = true ∧ (Lit.int k x.2).wf = true) ht hc (by decide) (fun fuel cs y hy => ?_) h
  obtain ⟨ys, m, _, _, h1, h2, h3⟩ := DataW.trod_array he hy
  rw [hc] at h1
  have e0 := h3 0 (by omega)
  have e1 := h3 1 (by omega)
  rw [List.getElem?_eq_getElem (by omega)] at e0 e1
  obtain ⟨x0, g0, _, k0⟩ := DataW.trod_int hq e0
  obtain ⟨x1, g1, _, k1⟩ := DataW.trod_int hq e1
  rw [hcq] at g0 g1
  match cs, h1 with
  | [c0, c1], _ =>
    simp at g0 g1
    subst g0
    subst g1
    exact ⟨(x0, x1), rfl, k0, k1⟩
end
end Go.Proofs.YtjmmfihmamcopaaGreatDoor
