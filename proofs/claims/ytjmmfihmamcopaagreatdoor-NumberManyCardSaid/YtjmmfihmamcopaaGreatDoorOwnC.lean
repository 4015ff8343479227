/- Rows that a call owns, an element in n cells; append of one element to such a row. -/
import Derived.Test.YtjmmfihmamcopaaGreatDoorRows
import Derived.Test.YtjmmfihmamcopaaGreatDoorKit
import Derived.Test.YtjmmfihmamcopaaGreatDoorRowIn
import Derived.Test.YtjmmfihmamcopaaGreatDoorRowC
import Derived.Test.YtjmmfihmamcopaaGreatDoorApp1b
namespace Go.Proofs.YtjmmfihmamcopaaGreatDoor
open Go.RowKit

section
variable {α : Type} {f : α → List Value} {n : Nat}
theorem flat_length (hf : ∀ x, (f x).length = n) (l : List α) : (l.flatMap f).length = l.length * n := by
  induction l with
  | nil => simp
  | cons a l ih => simp only [List.flatMap_cons, List.length_append, hf, ih, List.length_cons, Nat.add_mul, Nat.one_mul]; omega
theorem flat_at (hf : ∀ x, (f x).length = n) (l : List α) (j i : Nat) (hj : j < l.length) (hi : i < n) : (l.flatMap f)[j * n + i]? = (f l[j])[i]? := by
  induction l generalizing j with
  | nil => simp at hj
  | cons a l ih =>
    rw [List.flatMap_cons]
    cases j with
    | zero => rw [Nat.zero_mul, Nat.zero_add, List.getElem?_append_left (by rw [hf]; exact hi)]; rfl
    | succ j =>
      rw [List.getElem?_append_right (by rw [hf, Nat.add_mul]; omega), hf, show (j + 1) * n + i - n = j * n + i by rw [Nat.add_mul]; omega, ih j (by simpa using hj)]
      rfl
end

/-- The slice value v, behind block base, owns the row l: an element in n cells, written by f. -/
def OwnC {α : Type} (e : TypeId) (n : Nat) (f : α → List Value) (base : Nat) (w : World) (v : Value) (l : List α) : Prop := w.ownsRow base e n v l.length (l.flatMap f)

section
variable {α : Type} {f : α → List Value} {n base : Nat} {e : TypeId} {w w' : World} {v : Value} {l : List α}
theorem OwnC.nil (e : TypeId) (n : Nat) (f : α → List Value) (base : Nat) (w : World) : OwnC e n f base w (.slice none 0 0) [] := World.ownsRow_nil w base _ _
theorem OwnC.made (e : TypeId) (n : Nat) (f : α → List Value) (base : Nat) (w : World) (h : base ≤ w.heap.size) : OwnC e n f base (w.alloc (.cells #[] e)) (.slice (some ⟨w.heap.size, 0, none⟩) 0 0) [] :=
  World.ownsRow_made w #[] 0 h (by decide) (e := e) (size := n) (by simp)
theorem OwnC.below (h : OwnC e n f base w v l) (hb : Below w.heap.size w w') : OwnC e n f base w' v l := own_below h hb
theorem OwnC.heap (h : OwnC e n f base w v l) (hb : ∀ k, v.ownBlock = some k → w'.heap[k]? = w.heap[k]?) : OwnC e n f base w' v l := own_heap h hb
theorem OwnC.drewN (h : OwnC e n f base w v l) (k : Nat) : OwnC e n f base (w.drewN k) v l := h
theorem OwnC.lt (h : OwnC e n f base w v l) : ∀ k, v.ownBlock = some k → base ≤ k ∧ k < w.heap.size := World.ownsRow.lt h
theorem OwnC.mono {b : Nat} (h : OwnC e n f base w v l) (hb : b ≤ base) : OwnC e n f b w v l := ⟨h.1, h.2.imp id fun ⟨g, cap, cur, h1, h2, h3⟩ => ⟨g, cap, cur, h1, Nat.le_trans hb h2, h3⟩⟩
theorem OwnC.shape (hf : ∀ x, (f x).length = n) (h : OwnC e n f base w v l) (hne : l ≠ []) :
    ∃ g cap, v = .slice (some ⟨g, 0, none⟩) l.length cap ∧ base ≤ g ∧ g < w.heap.size ∧ l.length ≤ cap ∧ cap ≤ maxLen ∧
      ∀ j (h : j < l.length) i u, (f l[j])[i]? = some u → w.cell? ⟨g, j * n + i, none⟩ = some u ∧ w.frozen? ⟨g, j * n + i, none⟩ = false := by
  rcases h.2 with ⟨_, hn⟩ | ⟨g, cap, cur, rfl, hb, hg, hnc, hcm, hcs, htake⟩
  · exact absurd (List.eq_nil_of_length_eq_zero hn) hne
  · refine ⟨g, cap, rfl, hb, (Array.getElem?_eq_some_iff.1 hg).1, hnc, hcm, fun j hj i u hu => ⟨?_, by simp [World.frozen?, hg]⟩⟩
    have hi : i < n := by
      have := (List.getElem?_eq_some_iff.1 hu).1
      rw [hf] at this; exact this
    have h' : w.ownsRow base e n (.slice (some ⟨g, 0, none⟩) l.length cap) l.length (l.flatMap f) := h
    have hlt : j * n + i < l.length * n := by
      have : (j + 1) * n ≤ l.length * n := Nat.mul_le_mul_right _ hj
      rw [Nat.add_mul] at this; omega
    rw [h'.cellAt _ hlt, flat_at hf l j i hj hi, hu]
theorem OwnC.rowC (hf : ∀ x, (f x).length = n) (h : OwnC e n f base w v l) : RowC n f w w.heap.size v l := by
  by_cases hne : l = []
  · subst hne
    rcases h.2 with ⟨rfl, _⟩ | ⟨g, cap, cur, rfl, hb, hg, hnc, hcm, hcs, htake⟩
    · exact ⟨0, by simp, by decide, .inl ⟨rfl, none, rfl⟩⟩
    · exact ⟨cap, by simp, hcm, .inl ⟨rfl, _, rfl⟩⟩
  · obtain ⟨g, cap, rfl, h1, h2, h3, h4, h5⟩ := h.shape hf hne
    exact ⟨cap, h3, h4, .inr ⟨g, 0, rfl, h2, fun j hj i u hu => by rw [Nat.zero_add]; exact (h5 j hj i u hu).1⟩⟩
end

theorem RowC.more {α : Type} {n : Nat} {f : α → List Value} {w : World} {B B' : Nat} {v : Value} {xs : List α} (h : RowC n f w B v xs) (hB : B ≤ B') : RowC n f w B' v xs := by
  obtain ⟨cap, h1, h2, h3⟩ := h
  refine ⟨cap, h1, h2, ?_⟩
  rcases h3 with h3 | ⟨b, off, hv, hlt, hc⟩
  · exact .inl h3
  · exact .inr ⟨b, off, hv, Nat.lt_of_lt_of_le hlt hB, hc⟩
theorem RowC.bounds {α : Type} {n : Nat} {f : α → List Value} {w : World} {B : Nat} {A : Option Addr} {m c : Nat} {xs : List α} (h : RowC n f w B (.slice A m c) xs) : xs.length = m ∧ m ≤ c ∧ c ≤ 9223372036854775807 ∧
    (∀ k (hk : k < xs.length), ∃ b off, A = some ⟨b, off, none⟩ ∧ b < B ∧ ∀ i u, (f xs[k])[i]? = some u → w.cell? ⟨b, off + k * n + i, none⟩ = some u) := by
  obtain ⟨A', c', e, h1, h2, h3⟩ := h.shape
  injection e with e1 e2 e3
  subst e1 e2 e3
  refine ⟨rfl, h1, h2, fun k hk => ?_⟩
  obtain ⟨b, off, h4, h5, h6⟩ := h3 (by rintro rfl; simp at hk)
  exact ⟨b, off, h4, h5, h6 k hk⟩
theorem RowC.step {α : Type} {n : Nat} {f : α → List Value} {w w' : World} {v : Value} {xs : List α} (h : RowC n f w w.heap.size v xs) (hb : Below w.heap.size w w') : RowC n f w' w'.heap.size v xs :=
  (h.below hb (Nat.le_refl _)).more hb.size
/-- A piece 'v[:k]' of a row of elements of n cells. -/
theorem RowC.cutTo {α : Type} {n k : Nat} {f : α → List Value} {w : World} {B : Nat} {A : Option Addr} {m c : Nat} {xs : List α} (h : RowC n f w B (.slice A m c) xs) (hk : k ≤ xs.length) : RowC n f w B (.slice A k c) (xs.take k) := by
  obtain ⟨cap, h1, h2, h3⟩ := h
  rcases h3 with ⟨rfl, A', e⟩ | ⟨b, off, e, hlt, hc⟩
  · injection e with e1 e2 e3
    subst e3
    have : k = 0 := by simpa using hk
    subst this
    exact ⟨c, by simp, h2, .inl ⟨by simp, A, rfl⟩⟩
  · injection e with e1 e2 e3
    subst e1 e2 e3
    have hl : (xs.take k).length = k := by simp; omega
    refine ⟨c, by rw [hl]; omega, h2, .inr ⟨b, off, by rw [hl], hlt, fun j hj i u hu => ?_⟩⟩
    rw [List.getElem_take] at hu
    exact hc j (by rw [hl] at hj; omega) i u hu
/-- A row that was laid just now, all its cells written out. -/
theorem rowC_lit {α : Type} {n : Nat} {f : α → List Value} (hf : ∀ x, (f x).length = n) (e : TypeId) (l : List α) (w : World) (hm : l.length ≤ maxLen) :
    OwnC e n f w.heap.size (w.alloc (.cells (l.flatMap f).toArray e)) (.slice (some ⟨w.heap.size, 0, none⟩) l.length l.length) l := by
  have := World.ownsRow_lit (base := w.heap.size) (e := e) (size := n) w (l.flatMap f).toArray l.length (Nat.le_refl _) hm (by simpa using flat_length hf l)
  simpa [OwnC] using this

/-- 'out = append(out, x)', out nil or the call's own, x in a block of its own that was laid just now. -/
theorem wpList_appN {P : Program} {w0 : World} {ops : Array Oper} {rest : List Oper} {o : Oper} {a : Act} {Q : Exit → Act → World → Prop} (hgd : o.guard = none) (s x : Operand) (t : TypeId)
    (ho : o.op = .call { callee := .builtin .append, args := #[s, x], argTypes := #[t, t] })
    (base : Nat) (e : TypeId) (i : TypeInfo) (z : Value) (size bytes : Nat) (ht : P.underlying t = some (.slice e)) (hi : P.info? e = some i) (hz : i.zero = some z)
    (hsize : i.size = size) (hby : i.bytes = bytes) (hzs : z.cells.size = size) (hsz : 0 < size)
    (v : Value) (n : Nat) (xs : List Value) (us : List Value) (hus : us.length = size) (hone : ∀ y ∈ us, y.oneCell' = true) (hs : a.eval s = v) (g : Nat) (hge : g = w0.heap.size) (hx : a.eval x = .slice (some ⟨g, 0, none⟩) 1 1)
    (hown : w0.ownsRow base e size v n xs) (hb : base ≤ w0.heap.size)
    (h63 : n + 1 ≤ maxLen) (hbytes : (n + 1) * bytes ≤ 140737488355328)
    (h : ∀ v' w', w'.ownsRow base e size v' (n + 1) (xs ++ us) → w0.grownBy w' v.ownBlock → (∀ k, v'.ownBlock = some k → v.ownBlock = some k ∨ w0.heap.size ≤ k) → wpList P ops Q rest (a.put o.dst v') w') :
    wpList P ops Q (o :: rest) a (w0.alloc (.cells us.toArray e)) := by
  subst hge
  have hnews : ∀ j y, us[j]? = some y → (w0.alloc (.cells us.toArray e)).cell? ((⟨w0.heap.size, 0, none⟩ : Addr).add j) = some y := by
    intro j y hj
    rw [Addr.add_lit]
    simp only [Nat.zero_add]
    rw [cell_of_row _ w0.heap.size j _ e (0, 0) (heap_alloc_new w0 _)]
    simpa using hj
  obtain ⟨v', w', hr, h2, h3, _⟩ := run_append_own (P := P) (w0.alloc (.cells us.toArray e)) base t o.type e i z size bytes ht hi hz hsize hby hzs hsz v n xs (hown.alloc _) ⟨w0.heap.size, 0, none⟩ 1 1 us (by omega) hnews hone h63 hbytes (by simp; omega)
  have h4 := append_own_blk (P := P) (w0.alloc (.cells us.toArray e)) base t o.type e i z size bytes ht hi hz hsize hby hzs hsz v n xs (hown.alloc _) ⟨w0.heap.size, 0, none⟩ 1 1 us (by omega) hnews hone h63 hbytes v' w' hr
  have hg : w0.grownBy w' v.ownBlock := ⟨h3.os, h3.tape, h3.output, Nat.le_trans (by simp) h3.size, fun k hk hne => (h3.block k (by simp; omega) hne).trans (Below.heap_alloc _ _ _ hk)⟩
  refine wpList_plain hgd fun _ hK => ?_
  unfold Oper.wp execOp
  simp only [ho, resolve, invoke, builtin, Sem.run_bind, Sem.run_pure, Result.andThen_ok, List.map_toArray, List.map_cons, List.map_nil, hs, hx, hr]
  exact hK _ _ (h v' w' h2 hg (fun k hk => by rcases h4 k hk with h5 | h5; exact .inl h5; exact .inr (by simp at h5; omega)))

/-- What an append to one's own row leaves of the world. -/
theorem grown_below {w0 w' : World} {base : Nat} {v : Value} {e : TypeId} {size n : Nat} {xs : List Value} (hown : w0.ownsRow base e size v n xs) (hb : base ≤ w0.heap.size) (hg : w0.grownBy w' v.ownBlock) : Below base w0 w' :=
  (Below.refl _ _).grown hg hb (fun k hk => (hown.lt k hk).1)
end Go.Proofs.YtjmmfihmamcopaaGreatDoor
