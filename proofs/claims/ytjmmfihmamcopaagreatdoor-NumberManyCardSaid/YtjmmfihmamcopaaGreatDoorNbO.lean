/- Slices that a call owns, side by side; a map[string]T with its keys in a list. -/
import Derived.Test.YtjmmfihmamcopaaGreatDoorOwnC
import Derived.Test.YtjmmfihmamcopaaGreatDoorAppRow
import Derived.Test.YtjmmfihmamcopaaGreatDoorMapS
import Derived.Maps.OwnSet
namespace Go.Proofs.YtjmmfihmamcopaaGreatDoor
open Go.RowKit Tx

theorem cells_set {w : World} {b j : Nat} {c : Array Value} {t : TypeId} (h : w.heap[b]? = some (.cells c t (0, 0))) (v : Value) : (w.setCell ⟨b, j, none⟩ v).heap[b]? = some (.cells (c.setIfInBounds j v) t (0, 0)) := by
  have hlt := lt_of_block h
  have h' : w.heap[b] = .cells c t (0, 0) := by simpa [Array.getElem?_eq_getElem hlt] using h
  show (w.heap.modify b _)[b]? = _
  rw [Array.getElem?_eq_getElem (by simpa using hlt), Array.getElem_modify_self, h']
  rfl
def upd {α : Type} (f : Nat → α) (i : Nat) (x : α) : Nat → α := fun j => if j = i then x else f j
theorem upd_at {α : Type} (f : Nat → α) (i : Nat) (x : α) : upd f i x i = x := by simp [upd]
theorem upd_ne {α : Type} (f : Nat → α) {i j : Nat} (x : α) (h : j ≠ i) : upd f i x j = f j := by simp [upd, h]
/-- A slice that is owned: its element's type, how many cells an element has, how many elements, all cells. -/
structure Desc where
  e : TypeId
  sz : Nat
  n : Nat
  ys : List Value
def Desc.Is (d : Desc) (B : Nat) (w : World) (v : Value) : Prop := w.ownsRow B d.e d.sz v d.n d.ys
/-- N slices, each the call's own, behind block B, in blocks of their own, none of them in X. -/
structure Ow (B : Nat) (w : World) (X : List Nat) (vs : Nat → Value) (N : Nat) (D : Nat → Desc) : Prop where
  own : ∀ i, i < N → (D i).Is B w (vs i)
  dis : ∀ i j, i < N → j < N → i ≠ j → ∀ k, (vs i).ownBlock = some k → (vs j).ownBlock ≠ some k
  out : ∀ i, i < N → ∀ k, (vs i).ownBlock = some k → k ∉ X
section
variable {B N : Nat} {w w' : World} {X : List Nat} {vs vs' : Nat → Value} {D D' : Nat → Desc}
theorem Ow.lt (h : Ow B w X vs N D) {i : Nat} (hi : i < N) : ∀ k, (vs i).ownBlock = some k → B ≤ k ∧ k < w.heap.size := World.ownsRow.lt (h.own i hi)
theorem Ow.same (h : Ow B w X vs N D) (hm : ∀ k, k < w.heap.size → k ∉ X → w'.heap[k]? = w.heap[k]?) : Ow B w' X vs N D :=
  ⟨fun i hi => own_heap (h.own i hi) (fun k hk => hm k (h.lt hi k hk).2 (h.out i hi k hk)), h.dis, h.out⟩
theorem Ow.turn (h : Ow B w X vs N D) {i : Nat} (hi : i < N) (hX : ∀ k ∈ X, k < w.heap.size) (hm : ∀ k, k < w.heap.size → (vs i).ownBlock ≠ some k → k ∉ X → w'.heap[k]? = w.heap[k]?)
    {v' : Value} {d' : Desc} (ho : d'.Is B w' v') (hb : ∀ k, v'.ownBlock = some k → (vs i).ownBlock = some k ∨ w.heap.size ≤ k) : Ow B w' X (upd vs i v') N (upd D i d') := by
  refine ⟨fun j hj => ?_, fun j l hj hl hne k => ?_, fun j hj k => ?_⟩
  · by_cases hji : j = i
    · subst hji; rw [upd_at, upd_at]; exact ho
    · rw [upd_ne _ _ hji, upd_ne _ _ hji]
      exact own_heap (h.own j hj) (fun k hk => hm k (h.lt hj k hk).2 (h.dis j i hj hi hji k hk) (h.out j hj k hk))
  · by_cases hji : j = i
    · subst hji
      rw [upd_at, upd_ne _ _ (Ne.symm hne)]
      intro hk hk2
      rcases hb k hk with h1 | h1
      · exact h.dis j l hi hl hne k h1 hk2
      · have := (h.lt hl k hk2).2
        omega
    · rw [upd_ne _ _ hji]
      by_cases hli : l = i
      · subst hli
        rw [upd_at]
        intro hk hk2
        rcases hb k hk2 with h1 | h1
        · exact h.dis j l hj hi hji k hk h1
        · have := (h.lt hj k hk).2
          omega
      · rw [upd_ne _ _ hli]
        exact h.dis j l hj hl hne k
  · by_cases hji : j = i
    · subst hji
      rw [upd_at]
      intro hk hx
      rcases hb k hk with h1 | h1
      · exact h.out j hi k h1 hx
      · have := hX k hx
        omega
    · rw [upd_ne _ _ hji]
      exact h.out j hj k
theorem Ow.push (h : Ow B w X vs N D) {v : Value} {d : Desc} (ho : d.Is B w v) (hf : ∀ k, v.ownBlock = some k → k ∉ X ∧ ∀ i, i < N → (vs i).ownBlock ≠ some k) : Ow B w X (upd vs N v) (N + 1) (upd D N d) := by
  refine ⟨fun j hj => ?_, fun j l hj hl hne k => ?_, fun j hj k => ?_⟩
  · by_cases hji : j = N
    · subst hji; rw [upd_at, upd_at]; exact ho
    · rw [upd_ne _ _ hji, upd_ne _ _ hji]
      exact h.own j (by omega)
  · by_cases hji : j = N
    · subst hji
      rw [upd_at, upd_ne _ _ (Ne.symm hne)]
      exact fun hk hk2 => (hf k hk).2 l (by omega) hk2
    · rw [upd_ne _ _ hji]
      by_cases hli : l = N
      · subst hli
        rw [upd_at]
        exact fun hk hk2 => (hf k hk2).2 j (by omega) hk
      · rw [upd_ne _ _ hli]
        exact h.dis j l (by omega) (by omega) hne k
  · by_cases hji : j = N
    · subst hji
      rw [upd_at]
      exact fun hk => (hf k hk).1
    · rw [upd_ne _ _ hji]
      exact h.out j (by omega) k
theorem Ow.congr (h : Ow B w X vs N D) (hv : ∀ i, i < N → vs' i = vs i) (hd : ∀ i, i < N → D' i = D i) : Ow B w X vs' N D' :=
  ⟨fun i hi => by rw [hv i hi, hd i hi]; exact h.own i hi, fun i j hi hj hne k => by rw [hv i hi, hv j hj]; exact h.dis i j hi hj hne k, fun i hi k => by rw [hv i hi]; exact h.out i hi k⟩
theorem Ow.less (h : Ow B w X vs N D) {M : Nat} (hM : M ≤ N) : Ow B w X vs M D :=
  ⟨fun i hi => h.own i (by omega), fun i j hi hj => h.dis i j (by omega) (by omega), fun i hi => h.out i (by omega)⟩
end
/-- Counters by their names. -/
abbrev Cn := List (Bs × Nat)
def cnGet : Cn → Bs → Option Nat
  | [], _ => none
  | (a, n) :: l, s => if s = a then some n else cnGet l s
def cnSet : Cn → Bs → Nat → Cn
  | [], s, m => [(s, m)]
  | (a, n) :: l, s, m => if s = a then (a, m) :: l else (a, n) :: cnSet l s m
theorem cnGet_set (l : Cn) (s t : Bs) (m : Nat) : cnGet (cnSet l s m) t = if t = s then some m else cnGet l t := by
  induction l with
  | nil => simp [cnSet, cnGet]
  | cons a l ih =>
    obtain ⟨a, n⟩ := a
    unfold cnSet
    by_cases h : s = a
    · subst h
      rw [if_pos rfl]
      by_cases ht : t = s
      · simp [cnGet, ht]
      · simp [cnGet, ht]
    · rw [if_neg h]
      by_cases ht : t = a
      · subst ht
        have : t ≠ s := fun e => h e.symm
        simp [cnGet, this]
      · simp only [cnGet, if_neg ht, ih]
theorem cnSet_len (l : Cn) (s : Bs) (m : Nat) : (cnSet l s m).length = if (cnGet l s).isSome then l.length else l.length + 1 := by
  induction l with
  | nil => simp [cnSet, cnGet]
  | cons a l ih =>
    obtain ⟨a, n⟩ := a
    unfold cnSet cnGet
    by_cases h : s = a
    · simp [h]
    · rw [if_neg h, if_neg h]
      simp only [List.length_cons, ih]
      split <;> rfl
def cnVal (n : Nat) : Value := .agg #[.int .i64 n]
/-- Block b is the call's own map of counters. -/
def MapN (w : World) (k : TypeId) (b : Nat) (l : Cn) : Prop :=
  ∃ D : DataW Value, w.ownsMap Tryz.prog k heldElemS b l.length D ∧ Go.Maps.Tidy D ∧ Go.Maps.size D = l.length ∧
    ∀ i : Bs, i.length ≤ maxLen → Go.Maps.has D (.string i) = (cnGet l i).isSome ∧ ∀ z, D.atKey (.string i) z = match cnGet l i with | some n => .held (cnVal n) | none => z
theorem MapN.lt {w : World} {k : TypeId} {b : Nat} {l : Cn} (h : MapN w k b l) : b < w.heap.size := by
  obtain ⟨D, h1, _⟩ := h
  exact h1.lt
theorem MapN.keep {w w' : World} {k : TypeId} {b : Nat} {l : Cn} (h : MapN w k b l) (hb : w'.heap[b]? = w.heap[b]?) : MapN w' k b l := by
  obtain ⟨D, ⟨es, clock, h1, h2⟩, h3⟩ := h
  exact ⟨D, ⟨es, clock, hb.trans h1, h2⟩, h3⟩
theorem MapN.made (w : World) (k : TypeId) : MapN (w.alloc (.map #[] 0)) k w.heap.size [] :=
  ⟨.map [], World.ownsMap_made _ _ _ _, Go.Maps.tidy_empty, rfl, fun _ _ => ⟨rfl, fun _ => rfl⟩⟩
theorem MapN.len {w : World} {k t e : TypeId} {b : Nat} {l : Cn} (h : MapN w k b l) (ht : Tryz.prog.underlying t = some (.map k e)) (ty : TypeId) : (Builtin.len_ #[t] ty #[.map (some b)]).run Tryz.prog w = .ok (.int .i64 l.length) w := by
  obtain ⟨D, h1, _, h2, _⟩ := h
  rw [← h2]
  exact h1.len ht ty
theorem MapN.update {w : World} {k t e : TypeId} {b : Nat} {l : Cn} (h : MapN w k b l) (hk : Tryz.prog.underlying k = some .string) (ht : Tryz.prog.underlying t = some (.map k e)) (hn : l.length < maxLen)
    (i : Bs) (hi : i.length ≤ maxLen) (m : Nat) :
    ∃ w', (Instr.mapUpdate t (.map (some b)) (.string (bs i)) (cnVal m)).run Tryz.prog w = .ok () w' ∧ MapN w' k b (cnSet l i m) ∧ w.grownBy w' (some b) := by
  obtain ⟨D, h1, hT, hs, h3⟩ := h
  have hkey : keyOf Tryz.prog k (.string (bs i)) = some (.string i) := by
    have := Go.WideMaps.keyOf_string_mk hk (s := bs i) (by rw [bs_size]; exact hi)
    rwa [bs_list] at this
  have hlit := (Go.Maps.string_keyed hk).key hkey
  obtain ⟨w', hr, ho, hg⟩ := h1.update (Go.Maps.string_keyed hk) ht hn hkey (show heldElemS (cnVal m) = some (.held (cnVal m), []) from rfl)
  have hsz : Go.Maps.size (D.put (.string i) (.held (cnVal m))) = (cnSet l i m).length := by
    rw [Go.Maps.size_put hT, cnSet_len, (h3 i hi).1, hs]
  refine ⟨w', hr, ⟨_, ?_, hT.put hlit _, hsz, fun j hj => ?_⟩, hg⟩
  · obtain ⟨es, clock, e1, e2, e3, e4⟩ := ho
    refine ⟨es, clock, e1, e2, ?_, e4⟩
    have h9 := hsz
    rw [e4] at h9
    simp only [Go.Maps.size, length_sorted, List.length_map, Array.length_toList] at h9
    omega
  · rw [cnGet_set]
    by_cases hji : j = i
    · subst hji
      rw [if_pos rfl]
      exact ⟨Go.Maps.has_put_same hT.isMap hlit _, fun z => Go.Maps.atKey_put_same hT.isMap hlit _ _⟩
    · rw [if_neg hji]
      exact ⟨(Go.Maps.has_put_other (by simpa using hji) _).trans (h3 j hj).1, fun z => (Go.Maps.atKey_put_other (by simpa using hji) _ _).trans ((h3 j hj).2 z)⟩
theorem MapN.look {w : World} {k t e : TypeId} {b : Nat} {l : Cn} (h : MapN w k b l) (hk : Tryz.prog.underlying k = some .string) (ht : Tryz.prog.underlying t = some (.map k e)) (hz : (zeroValue e).run Tryz.prog w = .ok (cnVal 0) w)
    (c : Bool) (i : Bs) (hi : i.length ≤ maxLen) :
    (Instr.lookup t (.map (some b)) (.string (bs i)) c).run Tryz.prog w = .ok (if c then .tuple #[cnVal ((cnGet l i).getD 0), .bool (cnGet l i).isSome] else cnVal ((cnGet l i).getD 0)) w := by
  have hkey : keyOf Tryz.prog k (.string (bs i)) = some (.string i) := by
    have := Go.WideMaps.keyOf_string_mk hk (s := bs i) (by rw [bs_size]; exact hi)
    rwa [bs_list] at this
  obtain ⟨D, ⟨es, clock, hb, F, _, rfl⟩, _, _, h3⟩ := h
  rcases Maps.fit_look c (Go.Maps.string_keyed hk) ht hz hb F hkey with ⟨hrun, _, hat⟩ | ⟨e0, y, _, _, hrun, hRv, hat, _⟩
  · have hgi : cnGet l i = none := by
      cases hgi : cnGet l i with
      | none => rfl
      | some v =>
        have := ((h3 i hi).2 .nil).symm.trans (hat .nil)
        rw [hgi] at this
        cases this
    rw [hrun, hgi]; rfl
  · have hy : y = (.held e0.val, []) := by simpa [heldElemS] using hRv.symm
    cases hgi : cnGet l i with
    | none =>
      have h4 := ((h3 i hi).2 .nil).symm.trans (hat .nil)
      rw [hgi, hy] at h4
      cases h4
    | some m =>
      have h4 := ((h3 i hi).2 .nil).symm.trans (hat .nil)
      rw [hgi, hy] at h4
      have h5 : cnVal m = e0.val := by simpa using h4
      exact hrun.trans (by simp only [← h5, Option.getD_some, Option.isSome_some])
end Go.Proofs.YtjmmfihmamcopaaGreatDoor
