/- The plain law of the reader of records: it tells what the document does. · Rows of records: an element is a text and two slices, which read as rows themselves. · '==' of structs: the fields compared one by one. · Rows of texts that a call owns. · '==' of files. · '==' of what was read. -/
import Derived.Test.YtiogmegdkfnkkaaGreatDoorQ2
import Derived.Test.YtiogmegdkfnkkaaGreatDoorRows
import Derived.Test.YtiogmegdkfnkkaaGreatDoorQ1
import Derived.Laws.StructEq
import Derived.Lib.OthersKept
namespace Go.Proofs.YtiogmegdkfnkkaaGreatDoor
open Go.Lib
namespace Rc

/-- All texts in one, which are so many each; else something was none. -/
def allP (bad : Bool) (s : Bs) (each : Nat) : Bool × List Bs := match Wr.all s with
  | .ok l => if l.length % each = 0 then (bad, l) else (true, [])
  | .error _ => (true, [])
/-- Reads of texts, two each (the reader's). -/
def seenP (n st : Bs) : Seen := if st = [45] then (n, false, []) else (n, true, st.drop 1)
def seensP : List Bs → List Seen
  | n :: st :: r => seenP n st :: seensP r
  | _ => []
def parN (s : Bs) : Bool := match Wr.parse s with | .ok _ => false | .error _ => true
def takeP (q : Bool × List Rec) (t : Bs) : Bool × List Rec :=
  let a := allP q.1 t 3
  if a.2.length = 3 then
    let b := allP a.1 (part a.2 1) 2
    (b.1 || parN (part a.2 2), q.2 ++ [(part a.2 0, seensP b.2, parD (part a.2 2))])
  else (true, q.2)
def runP (s : Bs) : Bool × List Rec := ((allP false s 1).2.drop 1).foldl takeP ((allP false s 1).1, [])
def decP (s : Bs) : Except Nat (List Rec) := if (runP s).1 = true then .error 5 else if rightR (runP s).2 = true ∧ bytes (runP s).2 = s then .ok (runP s).2 else .error 5

theorem seensP_flat (l : List Seen) (h : ∀ r ∈ l, seenOk r = true) : seensP (flatS l) = l := by
  induction l with
  | nil => rfl
  | cons r l ih =>
    obtain ⟨n, b, t⟩ := r
    have hr := h (n, b, t) (by simp)
    have h2 := ih (fun q hq => h q (by simp [hq]))
    simp only [flatS, seensP, h2, seenP]
    unfold seenOk at hr
    simp only [Bool.and_eq_true, Bool.or_eq_true, decide_eq_true_eq] at hr
    cases b with
    | true => simp [state]
    | false =>
      have ht : t = [] := by
        rcases hr.2.2 with h | h
        · cases h
        · simpa using h
      subst ht
      simp [state]
theorem take_text {x : Rec} (h : mayR x = true) (L : List Rec) : takeP (false, L) (text x) = (false, L ++ [x]) := by
  obtain ⟨h1, h2, h3, h4⟩ := mayR_ok h
  have e1 : allP false (text x) 3 = (false, [x.1, readsT x.2.1, Wr.files x.2.2]) := by
    unfold allP; rw [all_text h]; simp
  have e2 : allP false (readsT x.2.1) 2 = (false, flatS x.2.1) := by
    unfold allP; rw [all_reads h]; simp only; rw [if_pos (by rw [flatS_len]; omega)]
  have e3 : parN (Wr.files x.2.2) = false := by unfold parN; rw [Wr.parse_files _ h4]
  have e4 : parD (Wr.files x.2.2) = x.2.2 := by unfold parD; rw [Wr.parse_files _ h4]
  unfold takeP
  simp only [e1]
  rw [if_pos (by simp)]
  show ((allP false (readsT x.2.1) 2).1 || parN (Wr.files x.2.2), L ++ [(x.1, seensP (allP false (readsT x.2.1) 2).2, parD (Wr.files x.2.2))]) = _
  rw [e2, e3, e4]
  simp only
  rw [seensP_flat _ h1]
  rfl
theorem fold_text : ∀ (l L : List Rec), (∀ x ∈ l, mayR x = true) → (l.map text).foldl takeP (false, L) = (false, L ++ l) := by
  intro l
  induction l with
  | nil => intro L _; simp
  | cons x l ih =>
    intro L h
    rw [List.map_cons, List.foldl_cons, take_text (h x (by simp)), ih _ (fun y hy => h y (by simp [hy]))]
    simp
theorem run_bytes {l : List Rec} (h : rightR l = true) : runP (bytes l) = (false, l) := by
  have e : allP false (bytes l) 1 = (false, stet1 :: l.map text) := by
    unfold allP; rw [all_bytes h]; simp only; rw [if_pos (by omega)]
  unfold runP
  rw [e]
  simp only [List.drop_succ_cons, List.drop_zero]
  rw [fold_text l [] (rightR_ok h).1]
  rfl
theorem decP_eq (s : Bs) : decP s = dec s := by
  match hd : dec s with
  | .ok l =>
    obtain ⟨h1, h2⟩ := dec_inv hd
    unfold decP
    rw [← h2, run_bytes h1]
    simp [h1]
  | .error e =>
    have he := dec_err hd
    subst he
    unfold decP
    split
    · rfl
    · split
      · next h =>
        have := dec_of h.1 h.2
        rw [hd] at this
        cases this
      · rfl
end Rc
end Go.Proofs.YtiogmegdkfnkkaaGreatDoor
namespace Go.Proofs.YtiogmegdkfnkkaaGreatDoor
open Go.RowKit Tx

abbrev sf (r : Rc.Seen) : List Value := [vs r.1, .bool r.2.1, vs r.2.2]
theorem sf_length (r : Rc.Seen) : (sf r).length = 3 := rfl
theorem sf_cells {w : World} {b o : Nat} {r : Rc.Seen} (h : ∀ i u, (sf r)[i]? = some u → w.cell? ⟨b, o + i, none⟩ = some u) :
    w.cell? ⟨b, o, none⟩ = some (.string (bs r.1)) ∧ w.cell? ⟨b, o + 1, none⟩ = some (.bool r.2.1) ∧ w.cell? ⟨b, o + 2, none⟩ = some (.string (bs r.2.2)) := ⟨h 0 _ rfl, h 1 _ rfl, h 2 _ rfl⟩
instance : Inhabited Rc.Seen := ⟨([], false, [])⟩
/-- A record's three cells. -/
abbrev Raw := Bs × Value × Value
abbrev rf (x : Raw) : List Value := [vs x.1, x.2.1, x.2.2]
theorem rf_length (x : Raw) : (rf x).length = 3 := rfl
theorem rf_cells {w : World} {b o : Nat} {r : Raw} (h : ∀ i u, (rf r)[i]? = some u → w.cell? ⟨b, o + i, none⟩ = some u) :
    w.cell? ⟨b, o, none⟩ = some (.string (bs r.1)) ∧ w.cell? ⟨b, o + 1, none⟩ = some r.2.1 ∧ w.cell? ⟨b, o + 2, none⟩ = some r.2.2 := ⟨h 0 _ rfl, h 1 _ rfl, h 2 _ rfl⟩
instance : Inhabited Raw := ⟨([], .nilIface, .nilIface)⟩

/-- A row's cells, where the block that they lie in is as it was. -/
theorem RowC.blk {α : Type} {n : Nat} {f : α → List Value} {w w' : World} {B B' : Nat} {v : Value} {xs : List α} (h : RowC n f w B v xs) (hB : B ≤ B')
    (hk : ∀ b off m c, v = .slice (some ⟨b, off, none⟩) m c → xs ≠ [] → b < B → w'.heap[b]? = w.heap[b]?) : RowC n f w' B' v xs := by
  obtain ⟨cap, h1, h2, h3⟩ := h
  refine ⟨cap, h1, h2, ?_⟩
  rcases h3 with h3 | ⟨b, off, hv, hlt, hc⟩
  · exact .inl h3
  · refine .inr ⟨b, off, hv, Nat.lt_of_lt_of_le hlt hB, fun j hj i u hu => ?_⟩
    rw [World.cell?_of_block (a := ⟨b, off + j * n + i, none⟩) (hk b off _ _ hv (by rintro rfl; simp at hj) hlt)]
    exact hc j hj i u hu
/-- The block that a slice's cells lie in. -/
def blkOf (v : Value) : Option Nat := match v with | .slice (some a) _ _ => some a.block | _ => none

theorem own_blk {v : Value} {b : Nat} (h : blkOf v = some b) : v.ownBlock = some b := by
  unfold blkOf at h
  split at h
  · simpa [Value.ownBlock] using h
  · cases h
theorem blk_own {v : Value} {b : Nat} (h : v.ownBlock = some b) : blkOf v = some b := by
  unfold Value.ownBlock at h
  split at h
  · simpa [blkOf] using h
  · cases h
/-- Three cells read as a record, all of them below B. -/
structure RecIs (w : World) (B : Nat) (r : Raw) (x : Rc.Rec) : Prop where
  rule : r.1 = x.1
  reads : RowC 3 sf w B r.2.1 x.2.1
  writes : RowC 2 ff w B r.2.2 x.2.2
theorem RecIs.blk {w w' : World} {B B' : Nat} {r : Raw} {x : Rc.Rec} (h : RecIs w B r x) (hB : B ≤ B') (hk : ∀ b, b < B → ((x.2.1 ≠ [] ∧ blkOf r.2.1 = some b) ∨ (x.2.2 ≠ [] ∧ blkOf r.2.2 = some b)) → w'.heap[b]? = w.heap[b]?) : RecIs w' B' r x :=
  ⟨h.rule, h.reads.blk hB fun b off m c hv hne hb => hk b hb (.inl ⟨hne, by rw [hv]; rfl⟩), h.writes.blk hB fun b off m c hv hne hb => hk b hb (.inr ⟨hne, by rw [hv]; rfl⟩)⟩
theorem blk_lt {α : Type} {n : Nat} {f : α → List Value} {w : World} {B : Nat} {v : Value} {xs : List α} (h : RowC n f w B v xs) (hne : xs ≠ []) {b : Nat} (hb : blkOf v = some b) : b < B := by
  obtain ⟨A, cap, rfl, _, _, h3⟩ := h.shape
  obtain ⟨b', off, rfl, hlt, _⟩ := h3 hne
  simp [blkOf] at hb
  omega
/-- What a record leads to does not lie in that block. -/
def Away (o : Option Nat) (r : Raw) (x : Rc.Rec) : Prop := ∀ b, o = some b → (x.2.1 ≠ [] → blkOf r.2.1 ≠ some b) ∧ (x.2.2 ≠ [] → blkOf r.2.2 ≠ some b)
theorem Away.none (r : Raw) (x : Rc.Rec) : Away .none r x := fun b h => by cases h
theorem Away.new {w : World} {B : Nat} {r : Raw} {x : Rc.Rec} (h : RecIs w B r x) {o : Option Nat} (ho : ∀ b, o = some b → B ≤ b) : Away o r x := fun b hb =>
  ⟨fun hne e => by have := blk_lt h.reads hne e; have := ho b hb; omega, fun hne e => by have := blk_lt h.writes hne e; have := ho b hb; omega⟩
theorem RecIs.below {w w' : World} {B C : Nat} {r : Raw} {x : Rc.Rec} (h : RecIs w B r x) (hb : Below C w w') (hB : B ≤ C) : RecIs w' B r x :=
  h.blk (Nat.le_refl _) fun b hlt _ => hb.block b (Nat.lt_of_lt_of_le hlt hB)
theorem RecIs.more {w : World} {B B' : Nat} {r : Raw} {x : Rc.Rec} (h : RecIs w B r x) (hB : B ≤ B') : RecIs w B' r x := h.blk hB fun _ _ _ => rfl
theorem RecIs.step {w w' : World} {r : Raw} {x : Rc.Rec} (h : RecIs w w.heap.size r x) (hb : Below w.heap.size w w') : RecIs w' w'.heap.size r x := (h.below hb (Nat.le_refl _)).more hb.size

/-- A slice reads as a list of records. -/
def RowR (w : World) (B : Nat) (v : Value) (l : List Rc.Rec) : Prop :=
  ∃ rs : List Raw, RowC 3 rf w B v rs ∧ rs.length = l.length ∧ ∀ i (h : i < rs.length) (h' : i < l.length), RecIs w B rs[i] l[i]
theorem RowR.below {w w' : World} {B C : Nat} {v : Value} {l : List Rc.Rec} (h : RowR w B v l) (hb : Below C w w') (hB : B ≤ C) : RowR w' B v l := by
  obtain ⟨rs, h1, h2, h3⟩ := h
  exact ⟨rs, h1.below hb hB, h2, fun i h h' => (h3 i h h').below hb hB⟩
theorem RowR.more {w : World} {B B' : Nat} {v : Value} {l : List Rc.Rec} (h : RowR w B v l) (hB : B ≤ B') : RowR w B' v l := by
  obtain ⟨rs, h1, h2, h3⟩ := h
  exact ⟨rs, h1.more hB, h2, fun i h h' => (h3 i h h').more hB⟩
theorem RowR.step {w w' : World} {v : Value} {l : List Rc.Rec} (h : RowR w w.heap.size v l) (hb : Below w.heap.size w w') : RowR w' w'.heap.size v l := (h.below hb (Nat.le_refl _)).more hb.size
theorem RowR.shape {w : World} {B : Nat} {v : Value} {l : List Rc.Rec} (h : RowR w B v l) : ∃ A cap, v = .slice A l.length cap ∧ l.length ≤ cap ∧ cap ≤ 9223372036854775807 ∧
    ∀ k (_ : k < l.length), ∃ b off, A = some ⟨b, off, none⟩ ∧ b < B ∧ ∃ r : Raw, (w.cell? ⟨b, off + k * 3, none⟩ = some (.string (bs r.1)) ∧ w.cell? ⟨b, off + k * 3 + 1, none⟩ = some r.2.1 ∧ w.cell? ⟨b, off + k * 3 + 2, none⟩ = some r.2.2) ∧ RecIs w B r l[k] := by
  obtain ⟨rs, h1, h2, h3⟩ := h
  obtain ⟨A, cap, hv, h4, h5, h6⟩ := h1.shape
  refine ⟨A, cap, by rw [hv, h2], by omega, h5, fun k hk => ?_⟩
  have hkr : k < rs.length := by omega
  obtain ⟨b, off, hA, hb, hc⟩ := h6 (by rintro rfl; simp at hkr)
  exact ⟨b, off, hA, hb, rs[k], rf_cells (hc k hkr), h3 k hkr hk⟩
theorem RowR.nil (w : World) (B : Nat) : RowR w B (.slice none 0 0) [] := ⟨[], ⟨0, by simp, by decide, .inl ⟨rfl, none, rfl⟩⟩, rfl, fun i h => absurd h (by simp)⟩

/-- A row of records that the call owns; what its records lead to lies in other blocks. -/
def OwnR (e : TypeId) (base : Nat) (w : World) (v : Value) (l : List Rc.Rec) : Prop :=
  ∃ rs : List Raw, OwnC e 3 rf base w v rs ∧ rs.length = l.length ∧ ∀ i (h : i < rs.length) (h' : i < l.length), RecIs w w.heap.size rs[i] l[i] ∧ Away v.ownBlock rs[i] l[i]
theorem OwnR.row {e : TypeId} {base : Nat} {w : World} {v : Value} {l : List Rc.Rec} (h : OwnR e base w v l) : RowR w w.heap.size v l := by
  obtain ⟨rs, h1, h2, h3⟩ := h
  exact ⟨rs, h1.rowC rf_length, h2, fun i h h' => (h3 i h h').1⟩
theorem OwnR.below {e : TypeId} {base : Nat} {w w' : World} {v : Value} {l : List Rc.Rec} (h : OwnR e base w v l) (hb : Below w.heap.size w w') : OwnR e base w' v l := by
  obtain ⟨rs, h1, h2, h3⟩ := h
  exact ⟨rs, h1.below hb, h2, fun i h h' => ⟨(h3 i h h').1.step hb, (h3 i h h').2⟩⟩
theorem OwnR.nil (e : TypeId) (base : Nat) (w : World) : OwnR e base w (.slice none 0 0) [] := ⟨[], OwnC.nil _ _ _ _ _, rfl, fun i h => absurd h (by simp)⟩
theorem OwnR.made (e : TypeId) (base : Nat) (w : World) (h : base ≤ w.heap.size) : OwnR e base (w.alloc (.cells #[] e)) (.slice (some ⟨w.heap.size, 0, none⟩) 0 0) [] := ⟨[], OwnC.made _ _ _ _ _ h, rfl, fun i h => absurd h (by simp)⟩
/-- One record more. -/
theorem OwnR.snoc {e : TypeId} {base : Nat} {w w' : World} {v v' : Value} {l : List Rc.Rec} {r : Raw} {x : Rc.Rec} {rs : List Raw}
    (h3 : ∀ i (h : i < rs.length) (h' : i < l.length), RecIs w w.heap.size rs[i] l[i] ∧ Away v.ownBlock rs[i] l[i]) (h2 : rs.length = l.length)
    (hx : RecIs w w.heap.size r x) (hr : Away v.ownBlock r x)
    (ho : OwnC e 3 rf base w' v' (rs ++ [r])) (hg : w.grownBy w' v.ownBlock) (hv : ∀ b, v'.ownBlock = some b → v.ownBlock = some b ∨ w.heap.size ≤ b) : OwnR e base w' v' (l ++ [x]) := by
  refine ⟨rs ++ [r], ho, by simp [h2], fun i h h' => ?_⟩
  have hsz : w.heap.size ≤ w'.heap.size := hg.size
  have key : ∀ (q : Raw) (y : Rc.Rec), RecIs w w.heap.size q y → Away v.ownBlock q y → RecIs w' w'.heap.size q y ∧ Away v'.ownBlock q y := by
    intro q y hq ha
    refine ⟨hq.blk hsz fun b hb hbl => hg.block b hb (fun e => ?_), fun b hb => ?_⟩
    · rcases hbl with ⟨hne, hbl⟩ | ⟨hne, hbl⟩
      · exact (ha b e.symm).1 hne hbl
      · exact (ha b e.symm).2 hne hbl
    · rcases hv b hb with h4 | h4
      · exact ha b h4
      · refine ⟨fun hne h5 => ?_, fun hne h5 => ?_⟩
        · have := blk_lt hq.reads hne h5; omega
        · have := blk_lt hq.writes hne h5; omega
  by_cases hi : i < rs.length
  · have e1 : (rs ++ [r])[i] = rs[i] := List.getElem_append_left hi
    have e2 : (l ++ [x])[i] = l[i]'(by omega) := List.getElem_append_left (by omega)
    rw [e1, e2]
    have := h3 i hi (by omega)
    exact key _ _ this.1 this.2
  · have hil : i = rs.length := by simp at h; omega
    subst hil
    have e1 : (rs ++ [r])[rs.length] = r := by simp
    have e2 : (l ++ [x])[rs.length] = x := by simp [h2]
    rw [e1, e2]
    exact key _ _ hx hr
end Go.Proofs.YtiogmegdkfnkkaaGreatDoor
namespace Go.Proofs.YtiogmegdkfnkkaaGreatDoor
open Go.RowKit

/-- Fields compared one by one. -/
def FieldsEq (d : Nat) (xs ys : Array Value) : List Field → List Bool → Prop
  | [], [] => True
  | f :: fs, e :: es => f.name ≠ "_" ∧ (∃ a b, (∀ w, (part f.type xs f.offset).run Tryz.prog w = .ok a w) ∧ (∀ w, (part f.type ys f.offset).run Tryz.prog w = .ok b w) ∧ ∀ w, (Op.equalIn d f.type a b).run Tryz.prog w = .ok e w) ∧ FieldsEq d xs ys fs es
  | _, _ => False
theorem eqFields_run (d : Nat) (xs ys : Array Value) (w : World) : ∀ (fs : List Field) (es : List Bool), FieldsEq d xs ys fs es → (Op.eqFields d xs ys fs).run Tryz.prog w = .ok (es.all id) w := by
  intro fs
  induction fs with
  | nil =>
    intro es h
    cases es with
    | nil => simp [Op.eqFields]
    | cons e es => exact absurd h (by simp [FieldsEq])
  | cons f fs ih =>
    intro es h
    cases es with
    | nil => exact absurd h (by simp [FieldsEq])
    | cons e es =>
      obtain ⟨h1, ⟨a, b, h2, h3, h4⟩, h5⟩ := h
      have hr := ih es h5
      cases e with
      | true => simp [Op.eqFields, h1, h2, h3, h4, hr]
      | false => simp [Op.eqFields, h1, h2, h3, h4]
theorem run_part1 (t : TypeId) (xs : Array Value) (o : Nat) (v : Value) (hs : Tryz.prog.underlying t = some .string) (h : xs[o]? = some v) (w : World) : (part t xs o).run Tryz.prog w = .ok v w := by
  simp [part, isAgg, run_underlying hs, h]
end Go.Proofs.YtiogmegdkfnkkaaGreatDoor
namespace Go.Proofs.YtiogmegdkfnkkaaGreatDoor
open Go.RowKit Go.Lib Go.Sort Tx

theorem strInfo : (Tryz.prog.info? 9).map (fun i => (i.zero, i.size, i.bytes)) = some (some (.string ⟨#[]⟩), 1, 16) := by kernel_rfl
instance : Inhabited Bs := ⟨[]⟩

/-- A row of texts that the call owns, behind block base. -/
def Txs (base : Nat) (w : World) (v : Value) (l : List Bs) : Prop := w.ownsRow base 9 1 v l.length (l.map vs)
theorem Txs.row {base : Nat} {w : World} {v : Value} {l : List Bs} (h : Txs base w v l) : Row vs w w.heap.size v l := Row.own h
theorem Txs.below {base : Nat} {w w' : World} {v : Value} {l : List Bs} (h : Txs base w v l) (hb : Below w.heap.size w w') : Txs base w' v l := own_below h hb
theorem Txs.mono {b base : Nat} {w : World} {v : Value} {l : List Bs} (h : Txs base w v l) (hb : b ≤ base) : Txs b w v l := ⟨h.1, h.2.imp id fun ⟨g, cap, cur, h1, h2, h3⟩ => ⟨g, cap, cur, h1, Nat.le_trans hb h2, h3⟩⟩
theorem Txs.keep {base : Nat} {w w' : World} {v : Value} {l : List Bs} (h : Txs base w v l) (hk : ∀ j, base ≤ j → j < w.heap.size → w'.heap[j]? = w.heap[j]?) : Txs base w' v l := by
  refine ⟨h.1, ?_⟩
  rcases h.2 with h2 | ⟨g, cap, cur, rfl, hbg, hg, rest⟩
  · exact .inl h2
  · exact .inr ⟨g, cap, cur, rfl, hbg, (hk g hbg (Array.getElem?_eq_some_iff.1 hg).1).trans hg, rest⟩
theorem Txs.iter {k : Nat} {w : World} {v : Value} {l : List Bs} {s : ByteArray} {p : Nat} (h : Txs (k + 1) w v l) : Txs (k + 1) (w.iterAt k s p) v l := h.keep fun j hj _ => iterAt_other w k j s p (by omega)
theorem Txs.nil (base : Nat) (w : World) : Txs base w (.slice none 0 0) [] := World.ownsRow_nil w base _ _
/-- 'out = append(out, x)': one text more. -/
theorem app_text {w0 : World} {ops : Array Oper} {rest : List Oper} {o : Oper} {a : Act} {Q : Exit → Act → World → Prop} (hgd : o.guard = none) (s x : Operand)
    (ho : o.op = .call { callee := .builtin .append, args := #[s, x], argTypes := #[58, 58] })
    (base : Nat) (v : Value) (l : List Bs) (u : Bs) (hs : a.eval s = v) (hx : a.eval x = .slice (some ⟨w0.heap.size, 0, none⟩) 1 1)
    (hown : Txs base w0 v l) (hb : base ≤ w0.heap.size) (hl : l.length < 1000000)
    (h : ∀ v' w', Txs base w' v' (l ++ [u]) → Below base w0 w' → w0.grownBy w' v.ownBlock → wpList Tryz.prog ops Q rest (a.put o.dst v') w') :
    wpList Tryz.prog ops Q (o :: rest) a (w0.alloc (.cells #[.string (bs u)] 9)) := by
  obtain ⟨i0, hi0, hz0, hz1, hz2⟩ := info_parts strInfo
  refine wpList_app1 hgd s x 58 ho base 9 i0 _ 16 Tryz.underlying58 hi0 hz0 hz1 hz2 rfl v l.length (l.map vs) (vs u) rfl hs hx hown hb (by simp only [maxLen]; omega) (by omega) ?_
  intro v' w' h1 h2 h3
  exact h v' w' (by simpa [Txs] using h1) h2 h3

theorem Txs.shape {base : Nat} {w : World} {v : Value} {l : List Bs} (h : Txs base w v l) (hne : l ≠ []) :
    ∃ g cap, v = .slice (some ⟨g, 0, none⟩) l.length cap ∧ base ≤ g ∧ g < w.heap.size ∧ l.length ≤ cap ∧ cap ≤ maxLen ∧ ∀ j (h : j < l.length), w.cell? ⟨g, j, none⟩ = some (vs l[j]) ∧ w.frozen? ⟨g, j, none⟩ = false := by
  rcases h.2 with ⟨_, hn⟩ | ⟨g, cap, cur, rfl, hb, hg, hnc, hcm, hcs, htake⟩
  · exact absurd (List.eq_nil_of_length_eq_zero hn) hne
  · refine ⟨g, cap, rfl, hb, (Array.getElem?_eq_some_iff.1 hg).1, hnc, hcm, fun j hj => ⟨?_, by simp [World.frozen?, hg]⟩⟩
    have h' : w.ownsRow base 9 1 (.slice (some ⟨g, 0, none⟩) l.length cap) l.length (l.map vs) := h
    rw [h'.cellAt j (by omega)]
    simp [hj]

theorem toList_bs (l : Bs) : (bs l).toList = l := by rw [ByteArray.toList_eq]; exact bs_list l

end Go.Proofs.YtiogmegdkfnkkaaGreatDoor
namespace Go.Proofs.YtiogmegdkfnkkaaGreatDoor
open Go.RowKit Tx

theorem fUnder : Tryz.prog.underlying 46 = some (.struct (Tryz.prog.fieldsOf 46)) := by kernel_rfl
theorem fStood : Tryz.prog.stoodInHeld 46 = false := by kernel_rfl
theorem fGuard : Tryz.prog.eqGuardType Tryz.prog.depth 46 = false := by kernel_rfl
theorem fFields : (Tryz.prog.fieldsOf 46).toList.map (fun f => (f.name == "_", f.type, f.offset)) = [(false, 9, 0), (false, 9, 1)] := by kernel_rfl
def eqF (p q : Wr.F) : Bool := p.1 == q.1 && p.2 == q.2
theorem eqF_self (p : Wr.F) : eqF p p = true := by simp [eqF]
theorem eqF_ne (p q : Wr.F) (h : p ≠ q) : eqF p q = false := by
  cases hc : eqF p q with
  | false => rfl
  | true =>
    simp only [eqF, Bool.and_eq_true, beq_iff_eq] at hc
    exact absurd (Prod.ext hc.1 hc.2) h
set_option maxRecDepth 100000 in
theorem eq_file (p q : Wr.F) (w : World) : (binOp .eql 46 (.agg #[.string (bs p.1), .string (bs p.2)]) (.agg #[.string (bs q.1), .string (bs q.2)])).run Tryz.prog w = .ok (.bool (eqF p q)) w := by
  rw [run_eql_struct, run_equalIn_struct w _ _ _ _ fUnder fStood]
  have h := fFields
  generalize (Tryz.prog.fieldsOf 46).toList = fs at *
  have key : FieldsEq 9999 #[.string (bs p.1), .string (bs p.2)] #[.string (bs q.1), .string (bs q.2)] fs [p.1 == q.1, p.2 == q.2] := by
    rcases fs with _ | ⟨a, _ | ⟨b, _ | ⟨c, r⟩⟩⟩
    all_goals simp only [List.map_cons, List.map_nil, List.cons.injEq, Prod.mk.injEq, and_true, reduceCtorEq, and_false] at h
    obtain ⟨⟨a1, a2, a3⟩, ⟨b1, b2, b3⟩⟩ := h
    simp only [beq_eq_false_iff_ne] at a1 b1
    have st : ∀ (x y : Bs) w, (Op.equalIn 9999 9 (.string (bs x)) (.string (bs y))).run Tryz.prog w = .ok (x == y) w := fun x y w => by
      rw [run_equalIn_string w 9998 _ _ _ Tryz.underlying9, toListB, toListB]
    refine ⟨a1, ⟨.string (bs p.1), .string (bs q.1), ?_, ?_, ?_⟩, b1, ⟨.string (bs p.2), .string (bs q.2), ?_, ?_, ?_⟩, trivial⟩
    all_goals (try rw [a2]); (try rw [a3]); (try rw [b2]); (try rw [b3])
    all_goals (first | exact st _ _ | exact run_part1 _ _ _ _ Tryz.underlying9 rfl)
  rw [eqFields_run _ _ _ _ _ _ key]
  simp [eqF]
set_option maxRecDepth 100000 in
theorem eqAtF (p q : Wr.F) (w : World) : (Op.equalIn 10000 46 (.agg #[.string (bs p.1), .string (bs p.2)]) (.agg #[.string (bs q.1), .string (bs q.2)])).run Tryz.prog w = .ok (eqF p q) w := by
  have h := eq_file p q w
  rw [run_eql_struct] at h
  generalize hr : (Op.equalIn 10000 46 (.agg #[.string (bs p.1), .string (bs p.2)]) (.agg #[.string (bs q.1), .string (bs q.2)])).run Tryz.prog w = r at *
  cases r with
  | ok x w2 => simp only [Result.andThen_ok] at h; injection h with h3 h4; injection h3 with h5; rw [h4, h5]
  | halt x w2 => simp [Result.andThen] at h

end Go.Proofs.YtiogmegdkfnkkaaGreatDoor
namespace Go.Proofs.YtiogmegdkfnkkaaGreatDoor
open Go.RowKit Tx

abbrev sv (r : Rc.Seen) : Value := .agg #[.string (bs r.1), .bool r.2.1, .string (bs r.2.2)]
def eqSn (p q : Rc.Seen) : Bool := p.1 == q.1 && (p.2.1 == q.2.1 && p.2.2 == q.2.2)
theorem eqSn_iff (p q : Rc.Seen) : eqSn p q = decide (p = q) := by
  obtain ⟨a, b, c⟩ := p
  obtain ⟨x, y, z⟩ := q
  by_cases h1 : a = x <;> by_cases h2 : b = y <;> by_cases h3 : c = z <;> simp [eqSn, h1, h2, h3]
set_option maxRecDepth 100000 in
theorem snFieldsEq (d : Nat) (_t s b : TypeId) (fs : List Field) (h : fs.map (fun f => (f.name == "_", f.type, f.offset)) = [(false, s, 0), (false, b, 1), (false, s, 2)]) (hs : Tryz.prog.underlying s = some .string) (hb : Tryz.prog.underlying b = some .bool) (p q : Rc.Seen) :
    FieldsEq (d + 1) #[.string (bs p.1), .bool p.2.1, .string (bs p.2.2)] #[.string (bs q.1), .bool q.2.1, .string (bs q.2.2)] fs [p.1 == q.1, p.2.1 == q.2.1, p.2.2 == q.2.2] := by
  rcases fs with _ | ⟨f1, _ | ⟨f2, _ | ⟨f3, _ | ⟨f4, r⟩⟩⟩⟩
  all_goals simp only [List.map_cons, List.map_nil, List.cons.injEq, Prod.mk.injEq, and_true, reduceCtorEq, and_false] at h
  obtain ⟨⟨a1, a2, a3⟩, ⟨b1, b2, b3⟩, ⟨c1, c2, c3⟩⟩ := h
  simp only [beq_eq_false_iff_ne] at a1 b1 c1
  have st : ∀ (x y : Bs) w, (Op.equalIn (d + 1) s (.string (bs x)) (.string (bs y))).run Tryz.prog w = .ok (x == y) w := fun x y w => by
    rw [run_equalIn_string w d _ _ _ hs, toListB, toListB]
  have sb : ∀ (x y : Bool) w, (Op.equalIn (d + 1) b (.bool x) (.bool y)).run Tryz.prog w = .ok (x == y) w := fun x y w => by
    simp [Op.equalIn, run_underlying hb]
  have pb : ∀ (xs : Array Value) (o : Nat) (v : Value) (_ : xs[o]? = some v) (w : World), (part b xs o).run Tryz.prog w = .ok v w := fun xs o v h w => by simp [part, isAgg, run_underlying hb, h]
  exact ⟨a1, ⟨.string (bs p.1), .string (bs q.1), by rw [a2, a3]; exact run_part1 _ _ _ _ hs rfl, by rw [a2, a3]; exact run_part1 _ _ _ _ hs rfl, by rw [a2]; exact st _ _⟩,
    b1, ⟨.bool p.2.1, .bool q.2.1, by rw [b2, b3]; exact pb _ _ _ rfl, by rw [b2, b3]; exact pb _ _ _ rfl, by rw [b2]; exact sb _ _⟩,
    c1, ⟨.string (bs p.2.2), .string (bs q.2.2), by rw [c2, c3]; exact run_part1 _ _ _ _ hs rfl, by rw [c2, c3]; exact run_part1 _ _ _ _ hs rfl, by rw [c2]; exact st _ _⟩, trivial⟩
set_option maxRecDepth 100000 in
theorem eq_sn (t s b : TypeId) (hu : Tryz.prog.underlying t = some (.struct (Tryz.prog.fieldsOf t))) (hst : Tryz.prog.stoodInHeld t = false) (hf : (Tryz.prog.fieldsOf t).toList.map (fun f => (f.name == "_", f.type, f.offset)) = [(false, s, 0), (false, b, 1), (false, s, 2)]) (hs : Tryz.prog.underlying s = some .string) (hb : Tryz.prog.underlying b = some .bool) (p q : Rc.Seen) (w : World) :
    (binOp .eql t (sv p) (sv q)).run Tryz.prog w = .ok (.bool (decide (p = q))) w := by
  rw [run_eql_struct, run_equalIn_struct w _ _ _ _ hu hst, eqFields_run _ _ _ _ _ _ (snFieldsEq 9998 t s b _ hf hs hb p q), ← eqSn_iff]
  simp [eqSn]
set_option maxRecDepth 100000 in
theorem eq_snAt (t s b : TypeId) (hu : Tryz.prog.underlying t = some (.struct (Tryz.prog.fieldsOf t))) (hst : Tryz.prog.stoodInHeld t = false) (hf : (Tryz.prog.fieldsOf t).toList.map (fun f => (f.name == "_", f.type, f.offset)) = [(false, s, 0), (false, b, 1), (false, s, 2)]) (hs : Tryz.prog.underlying s = some .string) (hb : Tryz.prog.underlying b = some .bool) (p q : Rc.Seen) (w : World) :
    (Op.equalIn 10000 t (sv p) (sv q)).run Tryz.prog w = .ok (decide (p = q)) w := by
  have h := eq_sn t s b hu hst hf hs hb p q w
  rw [run_eql_struct] at h
  generalize hr : (Op.equalIn 10000 t (sv p) (sv q)).run Tryz.prog w = r at *
  cases r with
  | ok x w2 => simp only [Result.andThen_ok] at h; injection h with h3 h4; injection h3 with h5; rw [h4, h5]
  | halt x w2 => simp [Result.andThen] at h
theorem snU : Tryz.prog.underlying 72 = some (.struct (Tryz.prog.fieldsOf 72)) := by kernel_rfl
theorem snSt : Tryz.prog.stoodInHeld 72 = false := by kernel_rfl
theorem snG : Tryz.prog.eqGuardType Tryz.prog.depth 72 = false := by kernel_rfl
theorem snF : (Tryz.prog.fieldsOf 72).toList.map (fun f => (f.name == "_", f.type, f.offset)) = [(false, 9, 0), (false, 4, 1), (false, 9, 2)] := by kernel_rfl
theorem pnU : Tryz.prog.underlying 44 = some (.struct (Tryz.prog.fieldsOf 44)) := by kernel_rfl
theorem pnSt : Tryz.prog.stoodInHeld 44 = false := by kernel_rfl
theorem pnG : Tryz.prog.eqGuardType Tryz.prog.depth 44 = false := by kernel_rfl
theorem pnF : (Tryz.prog.fieldsOf 44).toList.map (fun f => (f.name == "_", f.type, f.offset)) = [(false, 9, 0), (false, 4, 1), (false, 9, 2)] := by kernel_rfl
theorem eq_seen (p q : Rc.Seen) (w : World) : (binOp .eql 72 (sv p) (sv q)).run Tryz.prog w = .ok (.bool (decide (p = q))) w := eq_sn _ _ _ snU snSt snF Tryz.underlying9 Tryz.underlying4 p q w
theorem eq_seenAt (p q : Rc.Seen) (w : World) : (Op.equalIn 10000 72 (sv p) (sv q)).run Tryz.prog w = .ok (decide (p = q)) w := eq_snAt _ _ _ snU snSt snF Tryz.underlying9 Tryz.underlying4 p q w
theorem eq_pseen (p q : Rc.Seen) (w : World) : (binOp .eql 44 (sv p) (sv q)).run Tryz.prog w = .ok (.bool (decide (p = q))) w := eq_sn _ _ _ pnU pnSt pnF Tryz.underlying9 Tryz.underlying4 p q w
theorem eq_pseenAt (p q : Rc.Seen) (w : World) : (Op.equalIn 10000 44 (sv p) (sv q)).run Tryz.prog w = .ok (decide (p = q)) w := eq_snAt _ _ _ pnU pnSt pnF Tryz.underlying9 Tryz.underlying4 p q w
end Go.Proofs.YtiogmegdkfnkkaaGreatDoor
