/- Slices whose elements are n cells each, as they come in. · 'v = append(v, x)', x one cell: and where what comes back lies. What is owned, where its block is as it was. · Rows that a call owns, an element in n cells; append of one element to such a row. · Rows of files; files.Right and the reference's Right. · 'out = append(out, x)' to one's own row, at a step of a region that draws its order. · The plain law of records: what may be, a record's bytes, a database's bytes; what these bytes tell. -/
import Derived.Test.YtiogmegdkfnkkaaGreatDoorQ1
import Derived.ProofKit
import Derived.OpenShut
import Derived.Test.YtiogmegdkfnkkaaGreatDoorRows
import Derived.IntWalk
import Derived.Lib.SlBytesConst
namespace Go.Proofs.YtiogmegdkfnkkaaGreatDoor
open Go.RowKit

/-- The slice value v reads as the list xs, an element in n cells, written by f, below block B. -/
def RowC {α : Type} (n : Nat) (f : α → List Value) (w : World) (B : Nat) (v : Value) (xs : List α) : Prop :=
  ∃ cap, xs.length ≤ cap ∧ cap ≤ maxLen ∧
    ((xs = [] ∧ ∃ A, v = .slice A 0 cap) ∨
     (∃ b off, v = .slice (some ⟨b, off, none⟩) xs.length cap ∧ b < B ∧ ∀ j (h : j < xs.length) i u, (f xs[j])[i]? = some u → w.cell? ⟨b, off + j * n + i, none⟩ = some u))

section
variable {α : Type} {n : Nat} {f : α → List Value} {w w' : World} {B B' : Nat} {v : Value} {xs : List α}
theorem RowC.below {C : Nat} (h : RowC n f w B v xs) (hb : Below C w w') (hB : B ≤ C) : RowC n f w' B v xs := by
  obtain ⟨cap, h1, h2, h3⟩ := h
  refine ⟨cap, h1, h2, ?_⟩
  rcases h3 with h3 | ⟨b, off, hv, hlt, hc⟩
  · exact .inl h3
  · exact .inr ⟨b, off, hv, hlt, fun j hj i u hu => (hb.cell (p := ⟨b, off + j * n + i, none⟩) (Nat.lt_of_lt_of_le hlt hB)).trans (hc j hj i u hu)⟩
theorem RowC.shape (h : RowC n f w B v xs) : ∃ A cap, v = .slice A xs.length cap ∧ xs.length ≤ cap ∧ cap ≤ 9223372036854775807 ∧
    (xs ≠ [] → ∃ b off, A = some ⟨b, off, none⟩ ∧ b < B ∧ ∀ j (h : j < xs.length) i u, (f xs[j])[i]? = some u → w.cell? ⟨b, off + j * n + i, none⟩ = some u) := by
  obtain ⟨cap, h1, h2, h3⟩ := h
  have h2' : cap ≤ 9223372036854775807 := by simpa [maxLen] using h2
  rcases h3 with ⟨rfl, A, rfl⟩ | ⟨b, off, rfl, hb, hc⟩
  · exact ⟨A, cap, rfl, by simp, h2', fun h => absurd rfl h⟩
  · exact ⟨_, cap, rfl, h1, h2', fun _ => ⟨b, off, rfl, hb, hc⟩⟩
theorem RowC.row {g : α → Value} (h : RowC 1 (fun a => [g a]) w B v xs) : Row g w B v xs := by
  obtain ⟨cap, h1, h2, h3⟩ := h
  refine ⟨cap, h1, h2, ?_⟩
  rcases h3 with h3 | ⟨b, off, hv, hlt, hc⟩
  · exact .inl h3
  · exact .inr ⟨b, off, hv, hlt, fun j hj => by simpa using hc j hj 0 _ rfl⟩
end

theorem rowC_open {H : Type} {enc : TypeId × Value → H} {P : Program} {w : World} {base : Nat} {spare : Nat → Bool} {held : Bool} {t e : TypeId} {α : Type} [Inhabited α] (n : Nat) (f : α → List Value) (Ok : α → Prop)
    (ht : P.underlying t = some (.slice e)) (hc : P.cellsOf e = n) (hn : 0 < n)
    (hread : ∀ fuel cs y, DataW.trod enc P w base spare held fuel e cs = some y → ∃ a, cs = f a ∧ Ok a)
    {a : Option Addr} {len cap : Nat} {d : DataW H} {p : List MemPlace} (h : DataW.Trod enc P w base spare held t (.slice a len cap) d p) :
    ∃ xs : List α, xs.length = len ∧ RowC n f w w.heap.size (.slice a len cap) xs ∧ ∀ x ∈ xs, Ok x := by
  obtain ⟨fuel, h⟩ := h
  rcases DataW.trod_slice ht h with ⟨hcs, _⟩ | ⟨x, len', cap', elems, rest, m, _, hcs, _, hb, hl, hm, hlen, hel, _, _⟩
  · simp [Value.cells] at hcs
    obtain ⟨rfl, rfl, rfl⟩ := hcs
    exact ⟨[], rfl, ⟨0, by simp, by decide, .inl ⟨rfl, none, rfl⟩⟩, by simp⟩
  · simp [Value.cells] at hcs
    obtain ⟨rfl, rfl, rfl⟩ := hcs
    have each : ∀ i, i < len → ∃ y, Ok y ∧ (f y).length = n ∧ ∀ j u, (f y)[j]? = some u → w.cell? ((x.add (i * n)).add j) = some u := by
      intro i hi
      have h1 := hel i hi
      rw [hc, List.getElem?_eq_getElem (by omega)] at h1
      obtain ⟨cs, h2, h3⟩ := Option.bind_eq_some_iff.1 h1
      obtain ⟨y, rfl, hy⟩ := hread _ _ _ h3
      obtain ⟨_, h4, h5⟩ := World.cells?_some h2
      refine ⟨y, hy, h4, fun j u hj => ?_⟩
      have hjn : j < n := by
        have := (List.getElem?_eq_some_iff.1 hj).1
        omega
      rw [h5 j hjn, hj]
    let g : Nat → α := fun i => if hi : i < len then Classical.choose (each i hi) else default
    have hg : ∀ i (hi : i < len), Ok (g i) ∧ (f (g i)).length = n ∧ ∀ j u, (f (g i))[j]? = some u → w.cell? ((x.add (i * n)).add j) = some u := by
      intro i hi
      have := Classical.choose_spec (each i hi)
      simp only [g, dif_pos hi]
      exact this
    refine ⟨(List.range len).map g, by simp, ?_, ?_⟩
    · by_cases h0 : len = 0
      · subst h0
        exact ⟨cap, by simp, hm, .inl ⟨by simp, some x, rfl⟩⟩
      · obtain ⟨b, off, spot⟩ := x
        have h1 := hg 0 (by omega)
        have h2 := h1.2.2 0 _ (List.getElem?_eq_getElem (by omega))
        have hspot : spot = none := by simpa [Addr.add] using World.cell?_spot h2
        subst hspot
        have hlt : b < w.heap.size := World.block_lt_of_cell? w ⟨b, off, none⟩ (by simpa [Addr.add] using h2)
        refine ⟨cap, by simpa using hl, hm, .inr ⟨b, off, by simp, hlt, fun j hj i u hu => ?_⟩⟩
        simp at hj
        have := (hg j hj).2.2 i u (by simpa using hu)
        rw [Addr.add_lit, Addr.add_lit] at this
        exact this
    · intro y hy
      simp at hy
      obtain ⟨i, hi, rfl⟩ := hy
      exact (hg i hi).1

section
variable {H : Type} {enc : TypeId × Value → H} {P : Program} {w : World} {base : Nat} {spare : Nat → Bool} {held : Bool} {t e : TypeId} {a : Option Addr} {len cap : Nat} {d : DataW H} {p : List MemPlace}
theorem in_strings (ht : P.underlying t = some (.slice e)) (he : P.underlying e = some .string) (hc : P.cellsOf e = 1) (h : DataW.Trod enc P w base spare held t (.slice a len cap) d p) :
    ∃ xs : List ByteArray, xs.length = len ∧ Row Value.string w w.heap.size (.slice a len cap) xs ∧ ∀ x ∈ xs, x.size ≤ maxLen := by
  obtain ⟨xs, h1, h2, h3⟩ := rowC_open 1 (fun s : ByteArray => [Value.string s]) (fun s => s.size ≤ maxLen) ht hc (by decide) (fun fuel cs y hy => by obtain ⟨s, h1, _, h2⟩ := DataW.trod_string he hy; exact ⟨s, h1, h2⟩) h
  exact ⟨xs, h1, h2.row, h3⟩
theorem in_bools (ht : P.underlying t = some (.slice e)) (he : P.underlying e = some .bool) (hc : P.cellsOf e = 1) (h : DataW.Trod enc P w base spare held t (.slice a len cap) d p) :
    ∃ xs : List Bool, xs.length = len ∧ Row Value.bool w w.heap.size (.slice a len cap) xs := by
  obtain ⟨xs, h1, h2, _⟩ := rowC_open 1 (fun s : Bool => [Value.bool s]) (fun _ => True) ht hc (by decide) (fun fuel cs y hy => by obtain ⟨s, h1, _⟩ := DataW.trod_bool he hy; exact ⟨s, h1, trivial⟩) h
  exact ⟨xs, h1, h2.row⟩
theorem in_ints {k : IntKind} (ht : P.underlying t = some (.slice e)) (he : P.underlying e = some (.int k)) (hc : P.cellsOf e = 1) (h : DataW.Trod enc P w base spare held t (.slice a len cap) d p) :
    ∃ xs : List Int, xs.length = len ∧ Row (Value.int k) w w.heap.size (.slice a len cap) xs ∧ ∀ x ∈ xs, (Lit.int k x).wf = true := by
  obtain ⟨xs, h1, h2, h3⟩ := rowC_open 1 (fun s : Int => [Value.int k s]) (fun s => (Lit.int k s).wf = true) ht hc (by decide) (fun fuel cs y hy => by obtain ⟨s, h1, _, h2⟩ := DataW.trod_int he hy; exact ⟨s, h1, h2⟩) h
  exact ⟨xs, h1, h2.row, h3⟩
/-- [][2]K, K an integer kind -/
theorem in_pairs {k : IntKind} {q : TypeId} (ht : P.underlying t = some (.slice e)) (he : P.underlying e = some (.array 2 q)) (hq : P.underlying q = some (.int k)) (hc : P.cellsOf e = 2) (hcq : P.cellsOf q = 1) (h : DataW.Trod enc P w base spare held t (.slice a len cap) d p) :
    ∃ xs : List (Int × Int), xs.length = len ∧ RowC 2 (fun x : Int × Int => [Value.int k x.1, Value.int k x.2]) w w.heap.size (.slice a len cap) xs ∧ ∀ x ∈ xs, (Lit.int k x.1).wf = true ∧ (Lit.int k x.2).wf = true := by
  refine rowC_open 2 (fun x : Int × Int => [Value.int k x.1, Value.int k x.2]) (fun x => (Lit.int k x.1).wf = true ∧ (Lit.int k x.2).wf = true) ht hc (by decide) (fun fuel cs y hy => ?_) h
  obtain ⟨ys, m, _, _, h1, h2, h3⟩ := DataW.trod_array he hy
  rw [hc] at h1
  have e0 := h3 0 (by omega)
  have e1 := h3 1 (by omega)
  rw [List.getElem?_eq_getElem (by omega)] at e0 e1
  obtain ⟨x0, g0, _, k0⟩ := DataW.trod_int hq e0
  obtain ⟨x1, g1, _, k1⟩ := DataW.trod_int hq e1
  rw [hcq] at g0 g1
  match cs, h1 with
  | [c0, c1], _ =>
    simp at g0 g1
    subst g0
    subst g1
    exact ⟨(x0, x1), rfl, k0, k1⟩
end
end Go.Proofs.YtiogmegdkfnkkaaGreatDoor
namespace Go.Proofs.YtiogmegdkfnkkaaGreatDoor
open Go.RowKit

theorem own_heap {w w' : World} {base : Nat} {e : TypeId} {size : Nat} {v : Value} {n : Nat} {xs : List Value} (h : w.ownsRow base e size v n xs) (hb : ∀ k, v.ownBlock = some k → w'.heap[k]? = w.heap[k]?) : w'.ownsRow base e size v n xs := by
  refine ⟨h.1, ?_⟩
  rcases h.2 with h2 | ⟨g, cap, cur, rfl, hbg, hg, rest⟩
  · exact .inl h2
  · exact .inr ⟨g, cap, cur, rfl, hbg, (hb g rfl).trans hg, rest⟩

/-- Where what an append hands back lies: in the old block, or in a new one. -/
theorem append_own_blk {P : Program} (w : World) (base : Nat) (t ty e : TypeId) (i : TypeInfo) (z : Value) (size bytes : Nat) (ht : P.underlying t = some (.slice e)) (hi : P.info? e = some i) (hz : i.zero = some z)
    (hsize : i.size = size) (hby : i.bytes = bytes) (hzs : z.cells.size = size) (hsz : 0 < size)
    (v : Value) (n : Nat) (xs : List Value) (hown : w.ownsRow base e size v n xs)
    (a : Addr) (m c : Nat) (news : List Value) (hl : news.length = m * size) (hnews : ∀ j u, news[j]? = some u → w.cell? (a.add j) = some u) (h1 : ∀ u ∈ news, u.oneCell' = true)
    (h63 : n + m ≤ maxLen) (hbytes : (n + m) * bytes ≤ 140737488355328) (v' : Value) (w' : World) (hr' : (Builtin.append_ #[t, t] ty #[v, .slice (some a) m c]).run P w = .ok v' w') :
    ∀ k, v'.ownBlock = some k → v.ownBlock = some k ∨ w.heap.size ≤ k := by
  subst hsize
  subst hby
  have hsmall : n + m ≤ 9223372036854775807 := by simp only [maxLen] at h63; omega
  rcases hown.2 with ⟨rfl, rfl⟩ | ⟨g, cap, cur, rfl, hbg, hg, hnc, hcm, hcs, htake⟩
  · obtain ⟨v2, w2, hr, ho, _⟩ := run_append_own (P := P) w w.heap.size t ty e i z i.size i.bytes ht hi hz rfl rfl hzs hsz (.slice none 0 0) 0 [] (World.ownsRow_nil w w.heap.size e i.size) a m c news hl hnews h1 (by omega) (by simpa using hbytes) (Nat.le_refl _)
    rw [hr] at hr'
    injection hr' with e1 e2
    subst e1
    exact fun k hk => .inr (ho.lt k hk).1
  · by_cases hroom : n + m ≤ cap
    · have hfit : n * i.size + news.length ≤ cur.size := by rw [hl, hcs, ← Nat.add_mul]; exact Nat.mul_le_mul_right _ hroom
      rw [run_append_room (P := P) w t ty e i ht hi g n cap cur hg a m c news hl hnews h1 hroom hfit] at hr'
      injection hr' with e1 e2
      subst e1
      exact fun k hk => .inl hk
    · have holds : ∀ j u, xs[j]? = some u → w.cell? ((⟨g, 0, none⟩ : Addr).add j) = some u := hown.cells (g := g) rfl
      rw [run_append_grow (P := P) w t ty e i z ht hi hz ⟨g, 0, none⟩ n cap xs hown.1 holds a m c news hl hnews (by omega) (by omega) (growslice_fits (by omega) hbytes)] at hr'
      injection hr' with e1 e2
      subst e1
      intro k hk
      injection hk with hk
      exact .inr (by subst hk; exact Nat.le_refl _)

theorem wpList_app1b {P : Program} {w0 : World} {ops : Array Oper} {rest : List Oper} {o : Oper} {a : Act} {Q : Exit → Act → World → Prop} (hgd : o.guard = none) (s x : Operand) (t : TypeId)
    (ho : o.op = .call { callee := .builtin .append, args := #[s, x], argTypes := #[t, t] })
    (base : Nat) (e : TypeId) (i : TypeInfo) (z : Value) (bytes : Nat) (ht : P.underlying t = some (.slice e)) (hi : P.info? e = some i) (hz : i.zero = some z)
    (hsize : i.size = 1) (hby : i.bytes = bytes) (hzs : z.cells.size = 1)
    (v : Value) (n : Nat) (xs : List Value) (u : Value) (hu : u.oneCell' = true) (hs : a.eval s = v) (g : Nat) (hge : g = w0.heap.size) (hx : a.eval x = .slice (some ⟨g, 0, none⟩) 1 1)
    (hown : w0.ownsRow base e 1 v n xs) (hb : base ≤ w0.heap.size)
    (h63 : n + 1 ≤ maxLen) (hbytes : (n + 1) * bytes ≤ 140737488355328)
    (h : ∀ v' w', w'.ownsRow base e 1 v' (n + 1) (xs ++ [u]) → w0.grownBy w' v.ownBlock → (∀ k, v'.ownBlock = some k → v.ownBlock = some k ∨ w0.heap.size ≤ k) → wpList P ops Q rest (a.put o.dst v') w') :
    wpList P ops Q (o :: rest) a (w0.alloc (.cells #[u] e)) := by
  subst hge
  have hnews : ∀ j y, [u][j]? = some y → (w0.alloc (.cells #[u] e)).cell? ((⟨w0.heap.size, 0, none⟩ : Addr).add j) = some y := by
    intro j y hj
    rw [Addr.add_lit]
    simp only [Nat.zero_add]
    rw [cell_of_row _ w0.heap.size j _ e (0, 0) (heap_alloc_new w0 _)]
    simpa using hj
  have hone : ∀ y ∈ [u], y.oneCell' = true := by
    intro y hy
    simp at hy
    subst hy
    exact hu
  obtain ⟨v', w', hr, h2, h3, _⟩ := run_append_own (P := P) (w0.alloc (.cells #[u] e)) base t o.type e i z 1 bytes ht hi hz hsize hby hzs (by decide) v n xs (hown.alloc _) ⟨w0.heap.size, 0, none⟩ 1 1 [u] rfl hnews hone h63 hbytes (by simp; omega)
  have h4 := append_own_blk (P := P) (w0.alloc (.cells #[u] e)) base t o.type e i z 1 bytes ht hi hz hsize hby hzs (by decide) v n xs (hown.alloc _) ⟨w0.heap.size, 0, none⟩ 1 1 [u] rfl hnews hone h63 hbytes v' w' hr
  have hg : w0.grownBy w' v.ownBlock := ⟨h3.os, h3.tape, h3.output, Nat.le_trans (by simp) h3.size, fun k hk hne => (h3.block k (by simp; omega) hne).trans (Below.heap_alloc _ _ _ hk)⟩
  refine wpList_plain hgd fun _ hK => ?_
  unfold Oper.wp execOp
  simp only [ho, resolve, invoke, builtin, Sem.run_bind, Sem.run_pure, Result.andThen_ok, List.map_toArray, List.map_cons, List.map_nil, hs, hx, hr]
  exact hK _ _ (h v' w' h2 hg (fun k hk => by rcases h4 k hk with h5 | h5; exact .inl h5; exact .inr (by simp at h5; omega)))

end Go.Proofs.YtiogmegdkfnkkaaGreatDoor
namespace Go.Proofs.YtiogmegdkfnkkaaGreatDoor
open Go.RowKit

section
variable {α : Type} {f : α → List Value} {n : Nat}
theorem flat_length (hf : ∀ x, (f x).length = n) (l : List α) : (l.flatMap f).length = l.length * n := by
  induction l with
  | nil => simp
  | cons a l ih => simp only [List.flatMap_cons, List.length_append, hf, ih, List.length_cons, Nat.add_mul, Nat.one_mul]; omega
theorem flat_at (hf : ∀ x, (f x).length = n) (l : List α) (j i : Nat) (hj : j < l.length) (hi : i < n) : (l.flatMap f)[j * n + i]? = (f l[j])[i]? := by
  induction l generalizing j with
  | nil => simp at hj
  | cons a l ih =>
    rw [List.flatMap_cons]
    cases j with
    | zero => rw [Nat.zero_mul, Nat.zero_add, List.getElem?_append_left (by rw [hf]; exact hi)]; rfl
    | succ j =>
      rw [List.getElem?_append_right (by rw [hf, Nat.add_mul]; omega), hf, show (j + 1) * n + i - n = j * n + i by rw [Nat.add_mul]; omega, ih j (by simpa using hj)]
      rfl
end

/-- The slice value v, behind block base, owns the row l: an element in n cells, written by f. -/
def OwnC {α : Type} (e : TypeId) (n : Nat) (f : α → List Value) (base : Nat) (w : World) (v : Value) (l : List α) : Prop := w.ownsRow base e n v l.length (l.flatMap f)

section
variable {α : Type} {f : α → List Value} {n base : Nat} {e : TypeId} {w w' : World} {v : Value} {l : List α}
theorem OwnC.nil (e : TypeId) (n : Nat) (f : α → List Value) (base : Nat) (w : World) : OwnC e n f base w (.slice none 0 0) [] := World.ownsRow_nil w base _ _
theorem OwnC.made (e : TypeId) (n : Nat) (f : α → List Value) (base : Nat) (w : World) (h : base ≤ w.heap.size) : OwnC e n f base (w.alloc (.cells #[] e)) (.slice (some ⟨w.heap.size, 0, none⟩) 0 0) [] :=
  World.ownsRow_made w #[] 0 h (by decide) (e := e) (size := n) (by simp)
theorem OwnC.below (h : OwnC e n f base w v l) (hb : Below w.heap.size w w') : OwnC e n f base w' v l := own_below h hb
theorem OwnC.heap (h : OwnC e n f base w v l) (hb : ∀ k, v.ownBlock = some k → w'.heap[k]? = w.heap[k]?) : OwnC e n f base w' v l := own_heap h hb
theorem OwnC.drewN (h : OwnC e n f base w v l) (k : Nat) : OwnC e n f base (w.drewN k) v l := h
theorem OwnC.lt (h : OwnC e n f base w v l) : ∀ k, v.ownBlock = some k → base ≤ k ∧ k < w.heap.size := World.ownsRow.lt h
theorem OwnC.mono {b : Nat} (h : OwnC e n f base w v l) (hb : b ≤ base) : OwnC e n f b w v l := ⟨h.1, h.2.imp id fun ⟨g, cap, cur, h1, h2, h3⟩ => ⟨g, cap, cur, h1, Nat.le_trans hb h2, h3⟩⟩
theorem OwnC.shape (hf : ∀ x, (f x).length = n) (h : OwnC e n f base w v l) (hne : l ≠ []) :
    ∃ g cap, v = .slice (some ⟨g, 0, none⟩) l.length cap ∧ base ≤ g ∧ g < w.heap.size ∧ l.length ≤ cap ∧ cap ≤ maxLen ∧
      ∀ j (h : j < l.length) i u, (f l[j])[i]? = some u → w.cell? ⟨g, j * n + i, none⟩ = some u ∧ w.frozen? ⟨g, j * n + i, none⟩ = false := by
  rcases h.2 with ⟨_, hn⟩ | ⟨g, cap, cur, rfl, hb, hg, hnc, hcm, hcs, htake⟩
  · exact absurd (List.eq_nil_of_length_eq_zero hn) hne
  · refine ⟨g, cap, rfl, hb, (Array.getElem?_eq_some_iff.1 hg).1, hnc, hcm, fun j hj i u hu => ⟨?_, by simp [World.frozen?, hg]⟩⟩
    have hi : i < n := by
      have := (List.getElem?_eq_some_iff.1 hu).1
      rw [hf] at this; exact this
    have h' : w.ownsRow base e n (.slice (some ⟨g, 0, none⟩) l.length cap) l.length (l.flatMap f) := h
    have hlt : j * n + i < l.length * n := by
      have : (j + 1) * n ≤ l.length * n := Nat.mul_le_mul_right _ hj
      rw [Nat.add_mul] at this; omega
    rw [h'.cellAt _ hlt, flat_at hf l j i hj hi, hu]
theorem OwnC.rowC (hf : ∀ x, (f x).length = n) (h : OwnC e n f base w v l) : RowC n f w w.heap.size v l := by
  by_cases hne : l = []
  · subst hne
    rcases h.2 with ⟨rfl, _⟩ | ⟨g, cap, cur, rfl, hb, hg, hnc, hcm, hcs, htake⟩
    · exact ⟨0, by simp, by decide, .inl ⟨rfl, none, rfl⟩⟩
    · exact ⟨cap, by simp, hcm, .inl ⟨rfl, _, rfl⟩⟩
  · obtain ⟨g, cap, rfl, h1, h2, h3, h4, h5⟩ := h.shape hf hne
    exact ⟨cap, h3, h4, .inr ⟨g, 0, rfl, h2, fun j hj i u hu => by rw [Nat.zero_add]; exact (h5 j hj i u hu).1⟩⟩
end

theorem RowC.more {α : Type} {n : Nat} {f : α → List Value} {w : World} {B B' : Nat} {v : Value} {xs : List α} (h : RowC n f w B v xs) (hB : B ≤ B') : RowC n f w B' v xs := by
  obtain ⟨cap, h1, h2, h3⟩ := h
  refine ⟨cap, h1, h2, ?_⟩
  rcases h3 with h3 | ⟨b, off, hv, hlt, hc⟩
  · exact .inl h3
  · exact .inr ⟨b, off, hv, Nat.lt_of_lt_of_le hlt hB, hc⟩
theorem RowC.bounds {α : Type} {n : Nat} {f : α → List Value} {w : World} {B : Nat} {A : Option Addr} {m c : Nat} {xs : List α} (h : RowC n f w B (.slice A m c) xs) : xs.length = m ∧ m ≤ c ∧ c ≤ 9223372036854775807 ∧
    (∀ k (hk : k < xs.length), ∃ b off, A = some ⟨b, off, none⟩ ∧ b < B ∧ ∀ i u, (f xs[k])[i]? = some u → w.cell? ⟨b, off + k * n + i, none⟩ = some u) := by
  obtain ⟨A', c', e, h1, h2, h3⟩ := h.shape
  injection e with e1 e2 e3
  subst e1 e2 e3
  refine ⟨rfl, h1, h2, fun k hk => ?_⟩
  obtain ⟨b, off, h4, h5, h6⟩ := h3 (by rintro rfl; simp at hk)
  exact ⟨b, off, h4, h5, h6 k hk⟩
theorem RowC.step {α : Type} {n : Nat} {f : α → List Value} {w w' : World} {v : Value} {xs : List α} (h : RowC n f w w.heap.size v xs) (hb : Below w.heap.size w w') : RowC n f w' w'.heap.size v xs :=
  (h.below hb (Nat.le_refl _)).more hb.size
/-- A piece 'v[:k]' of a row of elements of n cells. -/
theorem RowC.cutTo {α : Type} {n k : Nat} {f : α → List Value} {w : World} {B : Nat} {A : Option Addr} {m c : Nat} {xs : List α} (h : RowC n f w B (.slice A m c) xs) (hk : k ≤ xs.length) : RowC n f w B (.slice A k c) (xs.take k) := by
  obtain ⟨cap, h1, h2, h3⟩ := h
  rcases h3 with ⟨rfl, A', e⟩ | ⟨b, off, e, hlt, hc⟩
  · injection e with e1 e2 e3
    subst e3
    have : k = 0 := by simpa using hk
    subst this
    exact ⟨c, by simp, h2, .inl ⟨by simp, A, rfl⟩⟩
  · injection e with e1 e2 e3
    subst e1 e2 e3
    have hl : (xs.take k).length = k := by simp; omega
    refine ⟨c, by rw [hl]; omega, h2, .inr ⟨b, off, by rw [hl], hlt, fun j hj i u hu => ?_⟩⟩
    rw [List.getElem_take] at hu
    exact hc j (by rw [hl] at hj; omega) i u hu
/-- A row that was laid just now, all its cells written out. -/
theorem rowC_lit {α : Type} {n : Nat} {f : α → List Value} (hf : ∀ x, (f x).length = n) (e : TypeId) (l : List α) (w : World) (hm : l.length ≤ maxLen) :
    OwnC e n f w.heap.size (w.alloc (.cells (l.flatMap f).toArray e)) (.slice (some ⟨w.heap.size, 0, none⟩) l.length l.length) l := by
  have := World.ownsRow_lit (base := w.heap.size) (e := e) (size := n) w (l.flatMap f).toArray l.length (Nat.le_refl _) hm (by simpa using flat_length hf l)
  simpa [OwnC] using this

/-- 'out = append(out, x)', out nil or the call's own, x in a block of its own that was laid just now. -/
theorem wpList_appN {P : Program} {w0 : World} {ops : Array Oper} {rest : List Oper} {o : Oper} {a : Act} {Q : Exit → Act → World → Prop} (hgd : o.guard = none) (s x : Operand) (t : TypeId)
    (ho : o.op = .call { callee := .builtin .append, args := #[s, x], argTypes := #[t, t] })
    (base : Nat) (e : TypeId) (i : TypeInfo) (z : Value) (size bytes : Nat) (ht : P.underlying t = some (.slice e)) (hi : P.info? e = some i) (hz : i.zero = some z)
    (hsize : i.size = size) (hby : i.bytes = bytes) (hzs : z.cells.size = size) (hsz : 0 < size)
    (v : Value) (n : Nat) (xs : List Value) (us : List Value) (hus : us.length = size) (hone : ∀ y ∈ us, y.oneCell' = true) (hs : a.eval s = v) (g : Nat) (hge : g = w0.heap.size) (hx : a.eval x = .slice (some ⟨g, 0, none⟩) 1 1)
    (hown : w0.ownsRow base e size v n xs) (hb : base ≤ w0.heap.size)
    (h63 : n + 1 ≤ maxLen) (hbytes : (n + 1) * bytes ≤ 140737488355328)
    (h : ∀ v' w', w'.ownsRow base e size v' (n + 1) (xs ++ us) → w0.grownBy w' v.ownBlock → (∀ k, v'.ownBlock = some k → v.ownBlock = some k ∨ w0.heap.size ≤ k) → wpList P ops Q rest (a.put o.dst v') w') :
    wpList P ops Q (o :: rest) a (w0.alloc (.cells us.toArray e)) := by
  subst hge
  have hnews : ∀ j y, us[j]? = some y → (w0.alloc (.cells us.toArray e)).cell? ((⟨w0.heap.size, 0, none⟩ : Addr).add j) = some y := by
    intro j y hj
    rw [Addr.add_lit]
    simp only [Nat.zero_add]
    rw [cell_of_row _ w0.heap.size j _ e (0, 0) (heap_alloc_new w0 _)]
    simpa using hj
  obtain ⟨v', w', hr, h2, h3, _⟩ := run_append_own (P := P) (w0.alloc (.cells us.toArray e)) base t o.type e i z size bytes ht hi hz hsize hby hzs hsz v n xs (hown.alloc _) ⟨w0.heap.size, 0, none⟩ 1 1 us (by omega) hnews hone h63 hbytes (by simp; omega)
  have h4 := append_own_blk (P := P) (w0.alloc (.cells us.toArray e)) base t o.type e i z size bytes ht hi hz hsize hby hzs hsz v n xs (hown.alloc _) ⟨w0.heap.size, 0, none⟩ 1 1 us (by omega) hnews hone h63 hbytes v' w' hr
  have hg : w0.grownBy w' v.ownBlock := ⟨h3.os, h3.tape, h3.output, Nat.le_trans (by simp) h3.size, fun k hk hne => (h3.block k (by simp; omega) hne).trans (Below.heap_alloc _ _ _ hk)⟩
  refine wpList_plain hgd fun _ hK => ?_
  unfold Oper.wp execOp
  simp only [ho, resolve, invoke, builtin, Sem.run_bind, Sem.run_pure, Result.andThen_ok, List.map_toArray, List.map_cons, List.map_nil, hs, hx, hr]
  exact hK _ _ (h v' w' h2 hg (fun k hk => by rcases h4 k hk with h5 | h5; exact .inl h5; exact .inr (by simp at h5; omega)))

/-- What an append to one's own row leaves of the world. -/
theorem grown_below {w0 w' : World} {base : Nat} {v : Value} {e : TypeId} {size n : Nat} {xs : List Value} (hown : w0.ownsRow base e size v n xs) (hb : base ≤ w0.heap.size) (hg : w0.grownBy w' v.ownBlock) : Below base w0 w' :=
  (Below.refl _ _).grown hg hb (fun k hk => (hown.lt k hk).1)
end Go.Proofs.YtiogmegdkfnkkaaGreatDoor
namespace Go.Proofs.YtiogmegdkfnkkaaGreatDoor
open Go.RowKit Tx

abbrev ff (f : Wr.F) : List Value := [vs f.1, vs f.2]
theorem ff_length (f : Wr.F) : (ff f).length = 2 := rfl
theorem ff_cells {w : World} {b o : Nat} {f : Wr.F} (h : ∀ i u, (ff f)[i]? = some u → w.cell? ⟨b, o + i, none⟩ = some u) : w.cell? ⟨b, o, none⟩ = some (.string (bs f.1)) ∧ w.cell? ⟨b, o + 1, none⟩ = some (.string (bs f.2)) :=
  ⟨h 0 _ rfl, h 1 _ rfl⟩
instance : Inhabited Wr.F := ⟨([], [])⟩
/-- Texts at all. -/
def FOk (f : Wr.F) : Prop := f.1.length ≤ maxLen ∧ f.2.length ≤ maxLen
theorem toListB (l : Bs) : (bs l).toList = l := by rw [ByteArray.toList_eq]; exact bs_list l
theorem step_yes (l : List Wr.F) (k : Nat) (_h : k < l.length) (h1 : ∀ j < k, Wr.stepOk l j = true) (h2 : Wr.stepOk l k = true) : ∀ j < k + 1, Wr.stepOk l j = true := by
  intro j hj
  by_cases hjk : j = k
  · rw [hjk]; exact h2
  · exact h1 j (by omega)

theorem fName_b {b : Bool} (s : Bs) (w : World) (hs : s.length ≤ maxLen) (h : Wr.nameOk s = b) : Calls Tryz.prog 50 #[vs s] w fun e w' => e = .returned (.bool b) ∧ w = w' := by
  subst h
  exact fName_any s w hs
theorem rName_b {b : Bool} (s : Bs) (w : World) (hs : s.length ≤ maxLen) (h : Wr.nameOk s = b) : Calls Tryz.prog 51 #[vs s] w fun e w' => e = .returned (.bool b) ∧ w = w' := by
  subst h
  exact rName_any s w hs
set_option maxHeartbeats 4000000 in
theorem fRight_any (v : Value) (l : List Wr.F) (w : World) (hr : RowC 2 ff w w.heap.size v l) (ok : ∀ f ∈ l, FOk f) :
    Calls Tryz.prog 39 #[v] w fun e w' => e = .returned (.bool (Wr.right l)) ∧ Below w.heap.size w w' := by
  obtain ⟨A, cap, rfl, h1, h2, h3⟩ := hr.shape
  have HC := Lib.hid h3
  have OK := Lib.hid ok
  clear h3 ok hr
  go_enter Tryz.func39, Tryz.ntmps39
  go_wp2_with fail
  go_loopw [7] (fun i wr => ∃ k : Nat, k ≤ l.length ∧ i = .int .i64 k ∧ (∀ j < k, Wr.stepOk l j = true) ∧ Below w.heap.size w wr) (fun i _ => l.length - (RowKit.intOf i).toNat)
  case atStart => exact ⟨0, Nat.zero_le _, rfl, fun j hj => absurd hj (Nat.not_lt_zero _), Below.refl _ _⟩
  case round =>
    obtain ⟨k, hk, rfl, hst, hbel⟩ := hrel
    have HS := Lib.hid hst
    clear hst
    have hle := hbel.size
    by_cases hlt : k < l.length
    · have hi : (k : Int) < (l.length : Int) := by omega
      obtain ⟨b, off, rfl, hbl, hc⟩ := HC.out (by rintro rfl; simp at hlt)
      obtain ⟨c0, c1⟩ := ff_cells (fun i u hu => (hbel.cell (p := ⟨b, off + k * 2 + i, none⟩) hbl).trans (hc k hlt i u hu))
      have hok := OK.out _ (List.getElem_mem hlt)
      have hse := Wr.stepOk_at l k hlt
      have HSY := Lib.hid (step_yes l k hlt HS.out)
      have HNO := Lib.hid (Wr.right_no l k hlt)
      obtain ⟨f, hf⟩ : ∃ f, f = l[k] := ⟨_, rfl⟩
      rw [← hf] at hok hse c0 c1
      clear hf
      obtain ⟨n, t⟩ := f
      obtain ⟨ok1, ok2⟩ := hok
      simp only at ok1 ok2 c0 c1
      have hz1 := bs_size n
      have hz2 := bs_size t
      simp only [maxLen] at ok1 ok2
      have hfile : Wr.fileOk (n, t) = (Wr.nameOk n && decide (t.length ≤ 4000)) := rfl
      rw [hfile] at hse
      simp only at hse
      by_cases hn : Wr.nameOk n = true
      · rw [hn, Bool.true_and] at hse
        by_cases ht : t.length ≤ 4000
        · rw [decide_eq_true ht, Bool.true_and] at hse
          have ht' : decide ((4000 : Int) < ((bs t).size : Int)) = false := decide_eq_false (by omega)
          have ht2 : decide ((4000 : Int) < (t.length : Int)) = false := decide_eq_false (by omega)
          have ht3 : decide (4000 < t.length) = false := decide_eq_false (by omega)
          have ht4 : t.length ≤ 4000 := ht
          rcases Nat.eq_zero_or_pos k with hk0 | hk0
          · have HS2 := Lib.hid (HSY.out (by rw [hse, hk0]; rfl))
            clear hse
            subst hk0
            simp only [Nat.zero_mul, Nat.add_zero] at c0 c1
            go_wp2_with fail
            go_quiet ((go_at_call 50; exact quiet_eq (fName_b n _ (by simp only [maxLen]; omega) hn)))
            go_wp2_with fail
            go_roundw
            case rel => exact ⟨1, by omega, rfl, HS2.out, below_drewN (hbel.alloc hle _) _⟩
            case measure => simp [RowKit.intOf]; omega
          · obtain ⟨j, hj⟩ : ∃ j, k = j + 1 := ⟨k - 1, by omega⟩
            have hjl : j < l.length := by omega
            have hjb : Wr.befOk l k n = Wr.less l[j].1 n := by rw [hj]; exact Wr.befOk_at l j hjl n
            rw [hjb] at hse
            obtain ⟨d0, d1⟩ := ff_cells (fun i u hu => (hbel.cell (p := ⟨b, off + j * 2 + i, none⟩) hbl).trans (hc j hjl i u hu))
            generalize l[j] = pf at *
            obtain ⟨pn, pt⟩ := pf
            simp only at d0 d1 hse
            have hkj : (k : Int) - 1 = (j : Int) := by omega
            have i0 : (0 : Int) ≤ (j : Int) := by omega
            have i1 : (j : Int) < (l.length : Int) := by omega
            have i2 : (0 : Int) < (k : Int) := by omega
            have hb0 : Op.bytesLess (bs pn).toList (bs n).toList = Wr.less pn n := by rw [toListB, toListB]
            have hwj : IntKind.i64.wrap ((k : Int) - 1) = (j : Int) := by rw [hkj]; exact IntWalk.i64_in _ (by omega)
            have d0a := fun o => Lib.cell?_alloc_marked o d0
            clear hjb hj
            by_cases hl : Wr.less pn n = true
            · rw [hl] at hb0 hse
              have HS2 := Lib.hid (HSY.out hse)
              clear hl hse
              go_wp2_with fail
              go_quiet ((go_at_call 50; exact quiet_eq (fName_b n _ (by simp only [maxLen]; omega) hn)))
              go_wp2_with fail
              go_roundw
              case rel => exact ⟨k + 1, by omega, by go_num, HS2.out, below_drewN (hbel.alloc hle _) _⟩
              case measure => simp [RowKit.intOf]; omega
            · have hl : Wr.less pn n = false := by simpa using hl
              rw [hl] at hb0 hse
              have HN2 := Lib.hid (HNO.out hse)
              clear hl hse
              go_wp2_with fail
              go_quiet ((go_at_call 50; exact quiet_eq (fName_b n _ (by simp only [maxLen]; omega) hn)))
              go_wp2_with fail
              go_ret
              exact ⟨by rw [HN2.out]; rfl, below_drewN (hbel.alloc hle _) _⟩
        · rw [decide_eq_false ht, Bool.false_and] at hse
          have HN2 := Lib.hid (HNO.out hse)
          have ht' : decide ((4000 : Int) < ((bs t).size : Int)) = true := decide_eq_true (by omega)
          have ht2 : decide ((4000 : Int) < (t.length : Int)) = true := decide_eq_true (by omega)
          have ht3 : decide (4000 < t.length) = true := decide_eq_true (by omega)
          clear hse
          go_wp2_with fail
          go_quiet ((go_at_call 50; exact quiet_eq (fName_b n _ (by simp only [maxLen]; omega) hn)))
          go_wp2_with fail
          go_ret
          exact ⟨by rw [HN2.out]; rfl, below_drewN (hbel.alloc hle _) _⟩
      · have hn : Wr.nameOk n = false := by simpa using hn
        rw [hn, Bool.false_and, Bool.false_and] at hse
        have HN2 := Lib.hid (HNO.out hse)
        clear hse
        go_wp2_with fail
        go_quiet ((go_at_call 50; exact quiet_eq (fName_b n _ (by simp only [maxLen]; omega) hn)))
        go_wp2_with fail
        go_ret
        exact ⟨by rw [HN2.out]; rfl, below_drewN (hbel.alloc hle _) _⟩
    · obtain rfl : k = l.length := by omega
      have HE := Lib.hid (Wr.right_end l HS.out)
      by_cases h32 : l.length ≤ 32
      · have HF : Hid (Wr.right l = true) := Lib.hid (by rw [HE.out]; exact decide_eq_true h32)
        have h4 : decide ((l.length : Int) ≤ 32) = true := decide_eq_true (by omega)
        go_wp2_with fail
        go_ret
        exact ⟨by rw [HF.out]; first | rfl | (simp; omega), hbel⟩
      · have HF : Hid (Wr.right l = false) := Lib.hid (by rw [HE.out]; exact decide_eq_false h32)
        have h4 : decide ((l.length : Int) ≤ 32) = false := decide_eq_false (by omega)
        go_wp2_with fail
        go_ret
        exact ⟨by rw [HF.out]; first | rfl | (simp; omega), hbel⟩
end Go.Proofs.YtiogmegdkfnkkaaGreatDoor
namespace Go.Proofs.YtiogmegdkfnkkaaGreatDoor
open Go.RowKit

theorem step_appN {P : Program} {w : World} {ops : Array Oper} {o : Oper} {a : Act} {K : Act → World → Prop} {Q : Exit → Act → World → Prop} {E : Prop} (hgd : o.guard = none) (s x : Operand) (t : TypeId)
    (ho : o.op = .call { callee := .builtin .append, args := #[s, x], argTypes := #[t, t] })
    (base : Nat) (e : TypeId) (i : TypeInfo) (z : Value) (size bytes : Nat) (ht : P.underlying t = some (.slice e)) (hi : P.info? e = some i) (hz : i.zero = some z)
    (hsize : i.size = size) (hby : i.bytes = bytes) (hzs : z.cells.size = size) (hsz : 0 < size)
    (v : Value) (n : Nat) (xs : List Value) (us : List Value) (hus : us.length = size) (hone : ∀ y ∈ us, y.oneCell' = true) (hs : a.eval s = v) (g : Nat) (hx : a.eval x = .slice (some ⟨g, 0, none⟩) 1 1)
    (hg : w.heap[g]? = some (.cells us.toArray e (0, 0)))
    (hown : w.ownsRow base e size v n xs) (hb : base ≤ w.heap.size)
    (h63 : n + 1 ≤ maxLen) (hbytes : (n + 1) * bytes ≤ 140737488355328)
    (h : ∀ v' w', w'.ownsRow base e size v' (n + 1) (xs ++ us) → w.grownBy w' v.ownBlock → K (a.put o.dst v') w') :
    if Region.wanted o (yielded ops a.tmps) = true then Oper.wp P o a w K Q else E := by
  have hw : Region.wanted o (yielded ops a.tmps) = true := by simp [Region.wanted, hgd]
  rw [if_pos hw]
  have hnews : ∀ j y, us[j]? = some y → w.cell? ((⟨g, 0, none⟩ : Addr).add j) = some y := by
    intro j y hj
    rw [Addr.add_lit]
    simp only [Nat.zero_add]
    rw [cell_of_row _ g j _ e (0, 0) hg]
    simpa using hj
  obtain ⟨v', w', hr, h2, h3, _⟩ := run_append_own (P := P) w base t o.type e i z size bytes ht hi hz hsize hby hzs hsz v n xs hown ⟨g, 0, none⟩ 1 1 us (by omega) hnews hone h63 hbytes hb
  have key := h v' w' h2 h3
  unfold Oper.wp execOp
  simp only [ho, resolve, invoke, builtin, Sem.run_bind, Sem.run_pure, Result.andThen_ok, List.map_toArray, List.map_cons, List.map_nil, hs, hx, hr]
  exact key
end Go.Proofs.YtiogmegdkfnkkaaGreatDoor
namespace Go.Proofs.YtiogmegdkfnkkaaGreatDoor
open Go.Lib
namespace Rc
abbrev Bs := Wr.Bs
/-- What was read: a name, whether there is a file, its text. -/
abbrev Seen := Bs × Bool × Bs
/-- A record: its rule, reads, writes. -/
abbrev Rec := Bs × List Seen × List Wr.F

def seenOk (r : Seen) : Bool := decide (1 ≤ r.1.length ∧ r.1.length ≤ 100) && (decide (r.2.2.length ≤ 4000) && (r.2.1 || r.2.2.isEmpty))
/-- Read k is one, and no earlier one has its name. -/
def stepS (l : List Seen) (k : Nat) : Bool := match l[k]? with
  | none => true
  | some r => seenOk r && !((l.take k).any fun q => q.1 == r.1)
def mayR (x : Rec) : Bool := (List.range x.2.1.length).all (stepS x.2.1) && (decide (1 ≤ x.1.length ∧ x.1.length ≤ 60) && (decide (x.2.1.length ≤ 40) && Wr.right x.2.2))
def stepR (l : List Rec) (k : Nat) : Bool := match l[k]? with
  | none => true
  | some x => mayR x && !((l.take k).any fun q => q.1 == x.1)
def rightR (l : List Rec) : Bool := (List.range l.length).all (stepR l) && decide (l.length ≤ 12)

theorem range_all {p : Nat → Bool} {n k : Nat} (h : k < n) (hp : p k = false) : (List.range n).all p = false := by
  rw [List.all_eq_false]
  exact ⟨k, List.mem_range.2 h, by rw [hp]; simp⟩
theorem range_yes {p : Nat → Bool} {n : Nat} (h : ∀ j < n, p j = true) : (List.range n).all p = true := by
  rw [List.all_eq_true]
  exact fun j hj => h j (List.mem_range.1 hj)
theorem mayR_no (x : Rec) (k : Nat) (h : k < x.2.1.length) (hs : stepS x.2.1 k = false) : mayR x = false := by
  unfold mayR; rw [range_all h hs]; rfl
theorem mayR_end (x : Rec) (h : ∀ j < x.2.1.length, stepS x.2.1 j = true) : mayR x = (decide (1 ≤ x.1.length ∧ x.1.length ≤ 60) && (decide (x.2.1.length ≤ 40) && Wr.right x.2.2)) := by
  unfold mayR; rw [range_yes h]; rfl
theorem rightR_no (l : List Rec) (k : Nat) (h : k < l.length) (hs : stepR l k = false) : rightR l = false := by
  unfold rightR; rw [range_all h hs]; rfl
theorem rightR_end (l : List Rec) (h : ∀ j < l.length, stepR l j = true) : rightR l = decide (l.length ≤ 12) := by
  unfold rightR; rw [range_yes h]; rfl
theorem stepS_at (l : List Seen) (k : Nat) (h : k < l.length) : stepS l k = (seenOk l[k] && !((l.take k).any fun q => q.1 == l[k].1)) := by
  unfold stepS; rw [List.getElem?_eq_getElem h]
theorem stepR_at (l : List Rec) (k : Nat) (h : k < l.length) : stepR l k = (mayR l[k] && !((l.take k).any fun q => q.1 == l[k].1)) := by
  unfold stepR; rw [List.getElem?_eq_getElem h]
theorem mayR_ok {x : Rec} (h : mayR x = true) : (∀ r ∈ x.2.1, seenOk r = true) ∧ (1 ≤ x.1.length ∧ x.1.length ≤ 60) ∧ x.2.1.length ≤ 40 ∧ Wr.right x.2.2 = true := by
  unfold mayR at h
  simp only [Bool.and_eq_true, decide_eq_true_eq] at h
  obtain ⟨h1, h2, h3, h4⟩ := h
  refine ⟨fun r hr => ?_, h2, h3, h4⟩
  obtain ⟨i, hi, rfl⟩ := List.mem_iff_getElem.1 hr
  have := List.all_eq_true.1 h1 i (List.mem_range.2 hi)
  rw [stepS_at _ _ hi, Bool.and_eq_true] at this
  exact this.1
theorem rightR_ok {l : List Rec} (h : rightR l = true) : (∀ x ∈ l, mayR x = true) ∧ l.length ≤ 12 := by
  unfold rightR at h
  simp only [Bool.and_eq_true, decide_eq_true_eq] at h
  refine ⟨fun r hr => ?_, h.2⟩
  obtain ⟨i, hi, rfl⟩ := List.mem_iff_getElem.1 hr
  have := List.all_eq_true.1 h.1 i (List.mem_range.2 hi)
  rw [stepR_at _ _ hi, Bool.and_eq_true] at this
  exact this.1

def state (r : Seen) : Bs := if r.2.1 then 43 :: r.2.2 else [45]
def readsT (l : List Seen) : Bs := (l.map fun r => Wr.put r.1 ++ Wr.put (state r)).flatten
def text (x : Rec) : Bs := Wr.put x.1 ++ (Wr.put (readsT x.2.1) ++ Wr.put (Wr.files x.2.2))
def stet1 : Bs := [115, 116, 101, 116, 49]
def bytes (l : List Rec) : Bs := Wr.put stet1 ++ (l.map fun x => Wr.put (text x)).flatten
def enc (l : List Rec) : Except Nat Bs := if rightR l then .ok (bytes l) else .error 5
theorem readsT_snoc (l : List Seen) (r : Seen) : readsT (l ++ [r]) = readsT l ++ (Wr.put r.1 ++ Wr.put (state r)) := by simp [readsT]
theorem bytes_snoc (l : List Rec) (x : Rec) : bytes (l ++ [x]) = bytes l ++ Wr.put (text x) := by simp [bytes]

/-- All texts of bytes, none where there is an error. -/
def allD (s : Bs) : List Bs := match Wr.all s with | .ok l => l | .error _ => []
def part (l : List Bs) (i : Nat) : Bs := l[i]?.getD []
/-- Reads of texts, two each (the document's). -/
def seens : List Bs → List Seen
  | [] => []
  | [n] => [(n, false, [])]
  | n :: st :: r => (if st = [45] ∨ st = [] then (n, false, []) else (n, true, st.drop 1)) :: seens r
def parD (s : Bs) : List Wr.F := match Wr.parse s with | .ok l => l | .error _ => []
def one (s : Bs) : Rec := (part (allD s) 0, seens (allD (part (allD s) 1)), parD (part (allD s) 2))
/-- The records that bytes are (the document's). -/
def dec (s : Bs) : Except Nat (List Rec) := if rightR (((allD s).drop 1).map one) = true ∧ bytes (((allD s).drop 1).map one) = s then .ok (((allD s).drop 1).map one) else .error 5

def flatS : List Seen → List Bs
  | [] => []
  | r :: l => r.1 :: state r :: flatS l
theorem readsT_flat (l : List Seen) : readsT l = Wr.puts (flatS l) := by
  induction l with
  | nil => rfl
  | cons r l ih =>
    have e1 : readsT (r :: l) = Wr.put r.1 ++ (Wr.put (state r) ++ readsT l) := by simp [readsT]
    have e2 : Wr.puts (flatS (r :: l)) = Wr.put r.1 ++ (Wr.put (state r) ++ Wr.puts (flatS l)) := by simp [Wr.puts, flatS]
    rw [e1, e2, ih]
theorem seens_flat (l : List Seen) (h : ∀ r ∈ l, seenOk r = true) : seens (flatS l) = l := by
  induction l with
  | nil => rfl
  | cons r l ih =>
    obtain ⟨n, b, t⟩ := r
    have hr := h (n, b, t) (by simp)
    have h2 := ih (fun q hq => h q (by simp [hq]))
    simp only [flatS, seens, h2]
    unfold seenOk at hr
    simp only [Bool.and_eq_true, Bool.or_eq_true, decide_eq_true_eq] at hr
    cases b with
    | true => simp [state]
    | false =>
      have ht : t = [] := by
        rcases hr.2.2 with h | h
        · cases h
        · simpa using h
      subst ht
      simp [state]
theorem flatS_len (l : List Seen) : (flatS l).length = 2 * l.length := by
  induction l with
  | nil => rfl
  | cons r l ih => simp [flatS, ih]; omega
theorem put_lt (x : Bs) (h : x.length ≤ 999999) : (Wr.put x).length ≤ x.length + 8 := by
  have : ∀ k m : Nat, m < 10 ^ (k + 1) → (Lib.decDigits m).length ≤ k + 1 := by
    intro k
    induction k with
    | zero => intro m hm; rw [Lib.decDigits, dif_pos (by omega)]; simp
    | succ k ih =>
      intro m hm
      by_cases h : m < 10
      · rw [Lib.decDigits, dif_pos h]; simp
      · rw [Lib.decDigits, dif_neg h]
        have := ih (m / 10) (by rw [Nat.pow_succ] at hm; omega)
        simp
        omega
  have := this 5 x.length (by omega)
  simp [Wr.put]
  omega
theorem seenOk_len {r : Seen} (h : seenOk r = true) : r.1.length ≤ 100 ∧ (state r).length ≤ 4001 := by
  unfold seenOk at h
  simp only [Bool.and_eq_true, decide_eq_true_eq] at h
  refine ⟨h.1.2, ?_⟩
  unfold state
  split
  · simp; exact h.2.1
  · simp
theorem reads_len (l : List Seen) (h : ∀ r ∈ l, seenOk r = true) : (readsT l).length ≤ 4117 * l.length := by
  induction l with
  | nil => simp [readsT]
  | cons r l ih =>
    have h1 := seenOk_len (h r (by simp))
    have h2 := ih (fun q hq => h q (by simp [hq]))
    have h3 := put_lt r.1 (by omega)
    have h4 := put_lt (state r) (by omega)
    rw [show readsT (r :: l) = Wr.put r.1 ++ Wr.put (state r) ++ readsT l by simp [readsT]]
    simp only [List.length_append, List.length_cons]
    omega
theorem files_lt (m : List Wr.F) (h : ∀ f ∈ m, Wr.fileOk f = true) : (Wr.files m).length ≤ 4040 * m.length := by
  induction m with
  | nil => simp [Wr.files]
  | cons f m ih =>
    have h1 := Wr.fileOk_len (h f (by simp))
    have h2 := ih (fun g hg => h g (by simp [hg]))
    have h3 := put_lt f.1 (by omega)
    have h4 := put_lt f.2 (by omega)
    rw [show Wr.files (f :: m) = Wr.put f.1 ++ Wr.put f.2 ++ Wr.files m by simp [Wr.files]]
    simp only [List.length_append, List.length_cons]
    omega
theorem text_parts {x : Rec} (h : mayR x = true) : x.1.length ≤ 60 ∧ (readsT x.2.1).length ≤ 170000 ∧ (Wr.files x.2.2).length ≤ 140000 ∧ (text x).length ≤ 320000 := by
  obtain ⟨h1, h2, h3, h4⟩ := mayR_ok h
  have hr := Wr.right_of h4
  have a := reads_len x.2.1 h1
  have b := files_lt x.2.2 hr.ok
  have hm := hr.most
  have c := put_lt x.1 (by omega)
  have d := put_lt (readsT x.2.1) (by omega)
  have e := put_lt (Wr.files x.2.2) (by omega)
  refine ⟨h2.2, by omega, by omega, ?_⟩
  unfold text
  simp only [List.length_append]
  omega
theorem all_text {x : Rec} (h : mayR x = true) : Wr.all (text x) = .ok [x.1, readsT x.2.1, Wr.files x.2.2] := by
  obtain ⟨h1, h2, h3, _⟩ := text_parts h
  have := Wr.all_puts [x.1, readsT x.2.1, Wr.files x.2.2] (by
    intro y hy
    simp at hy
    rcases hy with rfl | rfl | rfl <;> omega)
  rw [← this]
  simp [Wr.puts, text]
theorem all_reads {x : Rec} (h : mayR x = true) : Wr.all (readsT x.2.1) = .ok (flatS x.2.1) := by
  obtain ⟨h1, _⟩ := mayR_ok h
  rw [readsT_flat]
  refine Wr.all_puts _ fun y hy => ?_
  have : ∀ l : List Seen, (∀ r ∈ l, seenOk r = true) → ∀ y ∈ flatS l, y.length ≤ 999999 := by
    intro l
    induction l with
    | nil => intro _ y hy; cases hy
    | cons r l ih =>
      intro h y hy
      have h1 := seenOk_len (h r (by simp))
      simp only [flatS, List.mem_cons] at hy
      rcases hy with rfl | rfl | hy
      · omega
      · omega
      · exact ih (fun q hq => h q (by simp [hq])) y hy
  exact this _ h1 y hy
/-- What is encoded is told as it was. -/
theorem one_text {x : Rec} (h : mayR x = true) : one (text x) = x := by
  obtain ⟨h1, h2, h3, h4⟩ := mayR_ok h
  have e : allD (text x) = [x.1, readsT x.2.1, Wr.files x.2.2] := by unfold allD; rw [all_text h]
  have e2 : allD (readsT x.2.1) = flatS x.2.1 := by unfold allD; rw [all_reads h]
  have e3 : parD (Wr.files x.2.2) = x.2.2 := by unfold parD; rw [Wr.parse_files _ h4]
  unfold one
  rw [e]
  show (x.1, seens (allD (readsT x.2.1)), parD (Wr.files x.2.2)) = x
  rw [e2, e3, seens_flat _ h1]
theorem all_bytes {l : List Rec} (h : rightR l = true) : Wr.all (bytes l) = .ok (stet1 :: l.map text) := by
  obtain ⟨h1, _⟩ := rightR_ok h
  have := Wr.all_puts (stet1 :: l.map text) (by
    intro y hy
    rcases List.mem_cons.1 hy with rfl | hy
    · decide
    · obtain ⟨x, hx, rfl⟩ := List.mem_map.1 hy
      have := (text_parts (h1 x hx)).2.2.2
      omega)
  rw [← this]
  simp only [Wr.puts, bytes, List.map_cons, List.flatten_cons, List.map_map]
  rfl
theorem dec_bytes {l : List Rec} (h : rightR l = true) : dec (bytes l) = .ok l := by
  have e : (((allD (bytes l)).drop 1).map one) = l := by
    unfold allD
    rw [all_bytes h]
    simp only [List.drop_succ_cons, List.drop_zero, List.map_map]
    conv => rhs; rw [← List.map_id l]
    exact List.map_congr_left fun x hx => one_text ((rightR_ok h).1 x hx)
  unfold dec
  rw [e, if_pos ⟨h, rfl⟩]
theorem dec_inv {s : Bs} {l : List Rec} (h : dec s = .ok l) : rightR l = true ∧ bytes l = s := by
  unfold dec at h
  split at h
  · next he =>
    injection h with h
    rw [h] at he
    exact he
  · cases h
theorem dec_err {s : Bs} {e : Nat} (h : dec s = .error e) : e = 5 := by
  unfold dec at h
  split at h
  · cases h
  · injection h with h; exact h.symm
/-- Whatever tells records of bytes, by records whose bytes these are, tells what the document does. -/
theorem dec_of {s : Bs} {l : List Rec} (h : rightR l = true) (hs : bytes l = s) : dec s = .ok l := by rw [← hs]; exact dec_bytes h
end Rc
end Go.Proofs.YtiogmegdkfnkkaaGreatDoor
