/- The plain law of looking, of what is fresh, of finding and putting records. · record.place: slices.IndexFunc over records. · files.Get, over a sorted map. · record.Look. · record.Find. · One record more in a row of one's own; stetlaw20.Refs. -/
import Derived.Test.YtiogmegdkfnkkaaGreatDoorQ3
import Derived.Test.YtiogmegdkfnkkaaGreatDoorQ5
import Derived.Test.YtiogmegdkfnkkaaGreatDoorShelf
namespace Go.Proofs.YtiogmegdkfnkkaaGreatDoor
open Go.Lib
namespace Rc

/-- A file's text, and whether there is one. -/
def getF (l : List Wr.F) (n : Bs) : Bs × Bool := match l.find? (fun f => f.1 == n) with
  | some f => (f.2, true)
  | none => ([], false)
def seenOf (l : List Wr.F) (n : Bs) : Seen := (n, (getF l n).2, (getF l n).1)
/-- What there is of the first k names. -/
def lookTo (l : List Wr.F) (ns : List Bs) : Nat → List Seen
  | 0 => []
  | k + 1 => lookTo l ns k ++ (match ns[k]? with
    | none => []
    | some n => if (ns.take k).any (fun m => m == n) then [] else [seenOf l n])
def look (l : List Wr.F) (ns : List Bs) : List Seen := lookTo l ns ns.length
theorem lookTo_at (l : List Wr.F) (ns : List Bs) (k : Nat) (h : k < ns.length) : lookTo l ns (k + 1) = lookTo l ns k ++ if (ns.take k).any (fun m => m == ns[k]) then [] else [seenOf l ns[k]] := by
  show lookTo l ns k ++ _ = _
  rw [List.getElem?_eq_getElem h]
def freshS (l : List Wr.F) (r : Seen) : Bool := r.2.1 == (getF l r.1).2 && r.2.2 == (getF l r.1).1
def freshW (l : List Wr.F) (w : Wr.F) : Bool := (getF l w.1).2 && w.2 == (getF l w.1).1
def fresh (x : Rec) (l : List Wr.F) : Bool := x.2.1.all (freshS l) && x.2.2.all (freshW l)
def find (l : List Rec) (r : Bs) : Option Rec := l.find? fun x => x.1 == r
def putR : List Rec → Rec → List Rec
  | [], x => [x]
  | y :: l, x => if y.1 == x.1 then x :: l else y :: putR l x
theorem all_upto {α : Type} (p : α → Bool) (l : List α) (k : Nat) (h : k < l.length) (hp : p l[k] = false) : l.all p = false := by
  rw [List.all_eq_false]
  exact ⟨l[k], List.getElem_mem h, by simp [hp]⟩
theorem all_next {α : Type} (p : α → Bool) (l : List α) (k : Nat) (h : k < l.length) (h1 : (l.take k).all p = true) (hp : p l[k] = true) : (l.take (k + 1)).all p = true := by
  rw [List.take_succ_eq_append_getElem h, List.all_append, h1]
  simp [hp]
theorem any_next {α : Type} (p : α → Bool) (l : List α) (k : Nat) (h : k < l.length) (h1 : (l.take k).any p = false) (hp : p l[k] = false) : (l.take (k + 1)).any p = false := by
  rw [List.take_succ_eq_append_getElem h, List.any_append, h1]
  simp [hp]
theorem any_yes {α : Type} (p : α → Bool) (l : List α) (k : Nat) (h : k < l.length) (hp : p l[k] = true) : l.any p = true := by
  rw [List.any_eq_true]
  exact ⟨l[k], List.getElem_mem h, hp⟩
/-- The first place of a rule. -/
theorem putR_none (l : List Rec) (x : Rec) (h : l.any (fun y => y.1 == x.1) = false) : putR l x = l ++ [x] := by
  induction l with
  | nil => rfl
  | cons y l ih =>
    rw [List.any_cons, Bool.or_eq_false_iff] at h
    show (if y.1 == x.1 then _ else _) = _
    rw [h.1, ih h.2]
    rfl
theorem putR_at (l : List Rec) (x : Rec) (k : Nat) (hk : k < l.length) (h : (l.take k).any (fun y => y.1 == x.1) = false) (hx : (l[k].1 == x.1) = true) : putR l x = l.set k x := by
  induction l generalizing k with
  | nil => simp at hk
  | cons y l ih =>
    cases k with
    | zero =>
      simp only [List.getElem_cons_zero] at hx
      show (if y.1 == x.1 then _ else _) = _
      rw [hx]
      rfl
    | succ k =>
      rw [List.take_succ_cons, List.any_cons, Bool.or_eq_false_iff] at h
      show (if y.1 == x.1 then _ else _) = _
      rw [h.1]
      simp only [List.getElem_cons_succ] at hx
      rw [ih k (by simpa using hk) h.2 hx]
      rfl
theorem find_none (l : List Rec) (r : Bs) (h : l.any (fun y => y.1 == r) = false) : find l r = none := by
  unfold find
  rw [List.find?_eq_none]
  intro y hy hh
  have := List.any_eq_false.1 h y hy
  exact this hh
theorem find_at (l : List Rec) (r : Bs) (k : Nat) (hk : k < l.length) (h : (l.take k).any (fun y => y.1 == r) = false) (hx : (l[k].1 == r) = true) : find l r = some l[k] := by
  induction l generalizing k with
  | nil => simp at hk
  | cons y l ih =>
    cases k with
    | zero =>
      simp only [List.getElem_cons_zero] at hx ⊢
      unfold find
      rw [List.find?_cons, hx]
    | succ k =>
      rw [List.take_succ_cons, List.any_cons, Bool.or_eq_false_iff] at h
      simp only [List.getElem_cons_succ] at hx ⊢
      have := ih k (by simpa using hk) h.2 hx
      unfold find at *
      rw [List.find?_cons, h.1]
      exact this

/-- What is put is found. -/
theorem find_put_same (l : List Rec) (x : Rec) : find (putR l x) x.1 = some x := by
  induction l with
  | nil => unfold find putR; simp
  | cons y l ih =>
    show find (if y.1 == x.1 then x :: l else y :: putR l x) x.1 = _
    split
    · unfold find; simp
    · next h =>
      have h : (y.1 == x.1) = false := by simpa using h
      unfold find at *
      rw [List.find?_cons, h]
      exact ih
theorem find_put_other (l : List Rec) (x : Rec) (r : Bs) (h : x.1 ≠ r) : find (putR l x) r = find l r := by
  induction l with
  | nil => unfold find putR; simp [h]
  | cons y l ih =>
    show find (if y.1 == x.1 then x :: l else y :: putR l x) r = _
    split
    · next h2 =>
      have h2 : y.1 = x.1 := by simpa using h2
      have e1 : (x.1 == r) = false := by simpa using h
      have e2 : (y.1 == r) = false := by rw [h2]; exact e1
      unfold find
      rw [List.find?_cons, List.find?_cons, e1, e2]
    · unfold find at *
      rw [List.find?_cons, List.find?_cons, ih]
theorem put_len (l : List Rec) (x : Rec) : (putR l x).length = if l.any (fun y => y.1 == x.1) then l.length else l.length + 1 := by
  induction l with
  | nil => rfl
  | cons y l ih =>
    show (if y.1 == x.1 then x :: l else y :: putR l x).length = _
    rw [List.any_cons]
    cases h : y.1 == x.1 with
    | true => simp
    | false =>
      simp only [Bool.false_or, Bool.false_eq_true, if_false, List.length_cons, ih]
      split <;> simp
end Rc
end Go.Proofs.YtiogmegdkfnkkaaGreatDoor
namespace Go.Proofs.YtiogmegdkfnkkaaGreatDoor
open Go.RowKit Tx

set_option maxHeartbeats 1000000 in
theorem place1_any (r : Raw) (rule : Bs) (w : World) (B : Nat) (_hB : B < w.heap.size) (hc : w.cell? ⟨B, 0, none⟩ = some (.string (bs rule))) :
    Calls Tryz.prog 53 #[.agg #[.string (bs r.1), r.2.1, r.2.2], .pointer (some ⟨B, 0, none⟩)] w fun e w' => e = .returned (.bool (r.1 == rule)) ∧ Below w.heap.size w w' := by
  obtain ⟨r0, r1, r2⟩ := r
  have hc2 := fun o => Lib.cell?_alloc_marked o hc
  go_enter Tryz.func53, Tryz.ntmps53
  go_wp2_with fail
  go_ret
  exact ⟨by rw [toListB, toListB]; rfl, (Below.refl _ _).alloc (Nat.le_refl _) _⟩

/-- The first place of a rule, or -1. -/
def Hit (l : List Rc.Rec) (rule : Bs) (j : Int) : Prop :=
  (∃ k : Nat, j = k ∧ ∃ h : k < l.length, (l.take k).any (fun y => y.1 == rule) = false ∧ (l[k].1 == rule) = true) ∨ (j = -1 ∧ l.any (fun y => y.1 == rule) = false)
set_option maxHeartbeats 1000000 in
theorem idxF_any (v : Value) (l : List Rc.Rec) (rule : Bs) (w : World) (B : Nat) (hr : RowR w w.heap.size v l) (hn : l.length < 1000000) (hB : B < w.heap.size) (hc : w.cell? ⟨B, 0, none⟩ = some (.string (bs rule))) :
    Calls Tryz.prog 52 #[v, .func (.func 53) #[] #[.pointer (some ⟨B, 0, none⟩)]] w fun e w' => ∃ j : Int, e = .returned (.int .i64 j) ∧ Hit l rule j ∧ Below w.heap.size w w' := by
  obtain ⟨A, cap, rfl, c1, c2, c3⟩ := hr.shape
  have HC := Lib.hid c3
  clear c3 hr
  have eg : ∀ args w, (callFunc 53 args).run Tryz.prog w = .ok (.enter 53 args) w := enters_of Tryz.func53 (by kernel_rfl) rfl
  go_enter Tryz.func52, Tryz.ntmps52
  go_wp2_with fail
  go_loopg [5, 8] l.length (fun gg _ s8 wr => ∃ k : Nat, k ≤ l.length ∧ l.length - k ≤ gg ∧ s8 = .int .i64 k ∧ Hid ((l.take k).any (fun y => y.1 == rule) = false) ∧ Below w.heap.size w wr)
  case atStart => exact ⟨0, Nat.zero_le _, by omega, rfl, Lib.hid (by simp), Below.refl _ _⟩
  case round =>
    obtain ⟨k, hk, hg, rfl, hany, hbel⟩ := hrel
    have hle := hbel.size
    by_cases hlt : k < l.length
    · obtain ⟨b, off, rfl, hbl, r, hcs, hrec⟩ := HC.out k hlt
      obtain ⟨k1, k2, k3⟩ := hcs
      have k1 := (hbel.cell (p := ⟨b, off + k * 3, none⟩) hbl).trans k1
      have k2 := (hbel.cell (p := ⟨b, off + k * 3 + 1, none⟩) hbl).trans k2
      have k3 := (hbel.cell (p := ⟨b, off + k * 3 + 2, none⟩) hbl).trans k3
      have hcc := (hbel.cell (p := ⟨B, 0, none⟩) hB).trans hc
      have hcon := place1_any r rule wr B (by omega) hcc
      have hru := hrec.rule
      have HR : Hid (r.1 = l[k].1) := Lib.hid hru
      have HN := Lib.hid (Rc.any_next (fun y : Rc.Rec => y.1 == rule) l k hlt hany.out)
      have i0 : (0 : Int) ≤ (k : Int) := by omega
      have i1 : (k : Int) < (l.length : Int) := by omega
      clear hrec hru hc hcc
      obtain ⟨r0, r1, r2⟩ := r
      simp only at k1 k2 k3 hcon HR
      have HQ : ∀ q, (r0 == rule) = q → Hid ((l[k].1 == rule) = q) := fun q h => Lib.hid (by rw [← HR.out]; exact h)
      cases hq : (r0 == rule) with
      | true =>
        rw [hq] at hcon
        have HQ2 := HQ _ hq
        clear hq HQ
        go_wp2_with (go_at_fn 53; refine hcon.mono ?_; rintro e w' ⟨rfl, hb'⟩)
        go_ret
        exact ⟨_, rfl, .inl ⟨k, rfl, hlt, hany.out, HQ2.out⟩, hbel.trans (hb'.mono hle)⟩
      | false =>
        rw [hq] at hcon
        have HQ2 := HQ _ hq
        clear hq HQ
        go_wp2_with (go_at_fn 53; refine hcon.mono ?_; rintro e w' ⟨rfl, hb'⟩)
        go_roundg (l.length - (k + 1))
        case measure => omega
        case rel => exact ⟨k + 1, by omega, by omega, by go_num, Lib.hid (HN.out HQ2.out), hbel.trans (hb'.mono hle)⟩
    · obtain rfl : k = l.length := by omega
      have i1 : ¬ (l.length : Int) < (l.length : Int) := by omega
      go_wp2_with fail
      go_ret
      exact ⟨_, rfl, .inr ⟨rfl, by have := hany.out; rwa [List.take_length] at this⟩, hbel⟩

set_option maxHeartbeats 1000000 in
theorem place_any (v : Value) (l : List Rc.Rec) (rule : Bs) (w : World) (hr : RowR w w.heap.size v l) (hn : l.length < 1000000) :
    Calls Tryz.prog 41 #[v, .string (bs rule)] w fun e w' => ∃ j : Int, e = .returned (.int .i64 j) ∧ Hit l rule j ∧ Below w.heap.size w w' := by
  have hb : Below w.heap.size w (w.alloc (.cells #[.string (bs rule)] 9)) := (Below.refl _ _).alloc (Nat.le_refl _) _
  have hcon := idxF_any v l rule (w.alloc (.cells #[.string (bs rule)] 9)) w.heap.size (hr.step hb) hn (by simp) (by rw [cell_of_row _ w.heap.size 0 _ 9 (0, 0) (heap_alloc_new _ _)]; rfl)
  clear hr
  go_enter Tryz.func41, Tryz.ntmps41
  go_wp2_with (go_at_call 52; refine hcon.mono ?_; rintro e w' ⟨j, rfl, hj, hb'⟩)
  go_ret
  exact ⟨j, rfl, hj, hb.trans (hb'.mono (by simp))⟩
end Go.Proofs.YtiogmegdkfnkkaaGreatDoor
namespace Go.Proofs.YtiogmegdkfnkkaaGreatDoor
open Go.RowKit Tx

theorem cmp_lt : ∀ a b : Bs, decide (Lib.compareBytes a b < 0) = Wr.less a b
  | [], [] => rfl
  | [], _ :: _ => rfl
  | _ :: _, [] => rfl
  | a :: x, b :: y => by
    rw [Wr.less_cons, ← cmp_lt x y]
    show decide ((if a < b then -1 else if b < a then 1 else Lib.compareBytes x y) < (0 : Int)) = _
    by_cases h1 : a < b
    · simp [h1]
    · by_cases h2 : b < a
      · have h3 : ¬ a = b := fun e => by subst e; exact h1 h2
        simp [h1, h2, h3]
      · have h3 : a = b := by
          have h4 : b ≤ a := UInt8.not_lt.1 h1
          have h5 : a ≤ b := UInt8.not_lt.1 h2
          exact UInt8.le_antisymm h5 h4
        simp [h3]
theorem cmp_eq : ∀ a b : Bs, decide (Lib.compareBytes a b = 0) = (a == b)
  | [], [] => rfl
  | [], _ :: _ => rfl
  | _ :: _, [] => rfl
  | a :: x, b :: y => by
    have ih := cmp_eq x y
    show decide ((if a < b then -1 else if b < a then 1 else Lib.compareBytes x y) = (0 : Int)) = _
    by_cases h1 : a < b
    · have h3 : ¬ a = b := fun e => by subst e; exact UInt8.lt_irrefl _ h1
      simp [h1, h3]
    · by_cases h2 : b < a
      · have h3 : ¬ a = b := fun e => by subst e; exact h1 h2
        simp [h1, h2, h3]
      · have h3 : a = b := by
          have h4 : b ≤ a := UInt8.not_lt.1 h1
          have h5 : a ≤ b := UInt8.not_lt.1 h2
          exact UInt8.le_antisymm h5 h4
        subst h3
        simp only [h1, if_false, ih]
        simp
theorem cmp_range (a b : Bs) : -1 ≤ Lib.compareBytes a b ∧ Lib.compareBytes a b ≤ 1 := by
  induction a generalizing b with
  | nil => cases b <;> simp [Lib.compareBytes]
  | cons a x ih =>
    cases b with
    | nil => simp [Lib.compareBytes]
    | cons b y =>
      have := ih y
      simp only [Lib.compareBytes]
      split
      · omega
      · split
        · omega
        · exact this
set_option maxHeartbeats 1000000 in
theorem fplace1_any (f : Wr.F) (n : Bs) (w : World) :
    Calls Tryz.prog 63 #[.agg #[.string (bs f.1), .string (bs f.2)], .string (bs n)] w fun e w' => e = .returned (.int .i64 (Lib.compareBytes f.1 n)) ∧ Below w.heap.size w w' := by
  obtain ⟨f1, f2⟩ := f
  have hcon := fun w => Tryz.strings_Compare (bs f1) (bs n) w
  simp only [bs_list] at hcon
  go_enter Tryz.func63, Tryz.ntmps63
  go_wp2_with (go_at_call 64; refine (hcon _).mono ?_; rintro e w' ⟨rfl, rfl⟩)
  go_ret
  exact ⟨rfl, (Below.refl _ _).alloc (Nat.le_refl _) _⟩
/-- What stands ahead of place p is less, what stands behind it isn't. -/
structure At (l : List Wr.F) (n : Bs) (p : Nat) : Prop where
  le : p ≤ l.length
  pre : ∀ t (_ : t < l.length), t < p → Wr.less l[t].1 n = true
  post : ∀ t (_ : t < l.length), p ≤ t → Wr.less l[t].1 n = false
def Up (l : List Wr.F) : Prop := l.Pairwise fun f g => Wr.less f.1 g.1 = true
theorem Up.mono {l : List Wr.F} (h : Up l) (n : Bs) (i j : Nat) (hj : j < l.length) (hij : i ≤ j) (hl : Wr.less l[j].1 n = true) : Wr.less (l[i]'(by omega)).1 n = true := by
  rcases Nat.lt_or_eq_of_le hij with h1 | rfl
  · exact Wr.less_trans _ _ _ (List.pairwise_iff_getElem.1 h i j (by omega) hj h1) hl
  · exact hl
theorem At.exists {l : List Wr.F} (h : Up l) (n : Bs) : ∃ p, At l n p := by
  induction l using Tx.snoc_ind with
  | nil => exact ⟨0, Nat.le_refl _, fun t h => absurd h (by simp), fun t h => absurd h (by simp)⟩
  | snoc l f ih =>
    obtain ⟨p, h1, h2, h3⟩ := ih (List.pairwise_append.1 h).1
    have el : ∀ t (ht : t < l.length) (ht' : t < (l ++ [f]).length), (l ++ [f])[t] = l[t] := fun t ht _ => List.getElem_append_left ht
    have ef : ∀ ht' : l.length < (l ++ [f]).length, (l ++ [f])[l.length] = f := fun _ => by simp
    cases hf : Wr.less f.1 n with
    | true =>
      refine ⟨l.length + 1, by simp, fun t ht _ => ?_, fun t ht hp => absurd ht (by simp; omega)⟩
      refine h.mono n t l.length (by simp) (by simp at ht; omega) ?_
      rw [ef]; exact hf
    | false =>
      refine ⟨p, by simp; omega, fun t ht hp => ?_, fun t ht hp => ?_⟩
      · rw [el t (by omega)]; exact h2 t (by omega) hp
      · by_cases htl : t < l.length
        · rw [el t htl]; exact h3 t htl hp
        · obtain rfl : t = l.length := by simp at ht; omega
          rw [ef]; exact hf
theorem At.uniq {l : List Wr.F} {n : Bs} {p q : Nat} (h : At l n p) (hq : At l n q) : p = q := by
  have key : ∀ {p q : Nat}, At l n p → At l n q → ¬ p < q := fun {p q} h hq hlt => by
    have hpl : p < l.length := Nat.lt_of_lt_of_le hlt hq.le
    have := h.post p hpl (Nat.le_refl _)
    rw [hq.pre p hpl hlt] at this
    cases this
  have a := key h hq
  have b := key hq h
  omega
theorem getF_hit {l : List Wr.F} {n : Bs} {p : Nat} (h : At l n p) (hp : p < l.length) (he : l[p].1 = n) : Rc.getF l n = (l[p].2, true) := by
  have key : l.find? (fun f => f.1 == n) = some l[p] := by
    rw [List.find?_eq_some_iff_getElem]
    refine ⟨by simpa using he, p, hp, rfl, fun j hj => ?_⟩
    have := h.pre j (by omega) hj
    simp only [Bool.not_eq_true', beq_eq_false_iff_ne]
    intro e
    rw [e, Wr.less_self] at this
    cases this
  unfold Rc.getF
  rw [key]
theorem getF_miss {l : List Wr.F} {n : Bs} {p : Nat} (hu : Up l) (h : At l n p) (he : ∀ hp : p < l.length, l[p].1 ≠ n) : Rc.getF l n = ([], false) := by
  have key : l.find? (fun f => f.1 == n) = none := by
    rw [List.find?_eq_none]
    intro f hf
    obtain ⟨j, hj, rfl⟩ := List.mem_iff_getElem.1 hf
    simp only [beq_iff_eq]
    intro e
    rcases Nat.lt_trichotomy j p with h1 | rfl | h1
    · have := h.pre j hj h1
      rw [e, Wr.less_self] at this
      cases this
    · exact he hj e
    · have h2 := List.pairwise_iff_getElem.1 hu p j (by omega) hj h1
      rw [e, h.post p (by omega) (Nat.le_refl _)] at h2
      cases h2
  unfold Rc.getF
  rw [key]
set_option maxRecDepth 100000 in
set_option maxHeartbeats 4000000 in
theorem bsearch_any (v : Value) (l : List Wr.F) (n : Bs) (p : Nat) (q : Bool) (w : World) (hr : RowC 2 ff w w.heap.size v l) (hu : Up l) (hn : l.length < 1000000) (hp : At l n p) (hq : ∀ h : p < l.length, (l[p].1 == n) = q) (hq2 : ¬ p < l.length → q = false) :
    Calls Tryz.prog 62 #[v, .string (bs n), .func (.func 63) #[] #[]] w fun e w' => e = .returned (.tuple #[.int .i64 p, .bool q]) ∧ Below w.heap.size w w' := by
  obtain ⟨A, cap, rfl, c1, c2, c3⟩ := hr.shape
  have HC := Lib.hid c3
  have HU := Lib.hid hu
  have HP := Lib.hid hp
  have HQ := Lib.hid hq
  have HQ2 := Lib.hid hq2
  clear c3 hr hu hp hq hq2
  have eg : ∀ args w, (callFunc 63 args).run Tryz.prog w = .ok (.enter 63 args) w := enters_of Tryz.func63 (by kernel_rfl) rfl
  go_enter Tryz.func62, Tryz.ntmps62
  go_wp2
  go_loopg [9, 10] l.length (fun kx s9 s10 wr => ∃ lo hi : Nat, s9 = .int .i64 lo ∧ s10 = .int .i64 hi ∧ lo ≤ hi ∧ hi ≤ l.length ∧ hi - lo ≤ kx ∧ Below w.heap.size w wr ∧ Hid ((∀ t (_ : t < l.length), t < lo → Wr.less l[t].1 n = true) ∧ (∀ t (_ : t < l.length), hi ≤ t → Wr.less l[t].1 n = false)))
  case atStart => exact ⟨0, l.length, rfl, rfl, Nat.zero_le _, Nat.le_refl _, by omega, Below.refl _ _, Lib.hid ⟨fun t _ ht => absurd ht (Nat.not_lt_zero _), fun t h1 h2 => by omega⟩⟩
  case round =>
    obtain ⟨lo, hi, rfl, rfl, hlh, hin, hg, hbel, I⟩ := hrel
    have hle := hbel.size
    by_cases hlt : lo < hi
    · have hm : (lo + hi) / 2 < l.length := by omega
      obtain ⟨b, off, rfl, hbl, hcc⟩ := HC.out (by rintro rfl; simp at hm)
      obtain ⟨k1, k2⟩ := ff_cells (fun i u hu => (hbel.cell (p := ⟨b, off + (lo + hi) / 2 * 2 + i, none⟩) hbl).trans (hcc _ hm i u hu))
      have Y : Hid (∃ h : (lo + hi) / 2 < l.length, l[(lo + hi) / 2] = l[(lo + hi) / 2]'h) := Lib.hid ⟨hm, rfl⟩
      have M1 := Lib.hid (fun t (ht : t ≤ (lo + hi) / 2) (hl : Wr.less l[(lo + hi) / 2].1 n = true) => HU.out.mono n t _ hm ht hl)
      have M2 := Lib.hid (fun t (ht : t < l.length) (h : (lo + hi) / 2 ≤ t) (hl : Wr.less l[(lo + hi) / 2].1 n = false) => show Wr.less l[t].1 n = false from by
        cases hx : Wr.less l[t].1 n with
        | false => rfl
        | true => rw [HU.out.mono n _ t ht h hx] at hl; cases hl)
      clear hcc Y
      generalize l[(lo + hi) / 2] = y at *
      have hcon := fplace1_any y n wr
      have hlt2 := cmp_lt y.1 n
      have hran := cmp_range y.1 n
      obtain ⟨y1, y2⟩ := y
      simp only at k1 k2 hcon hlt2 hran
      generalize Lib.compareBytes y1 n = cv at *
      by_cases hc : cv < 0
      · have HL : Hid (Wr.less y1 n = true) := by show _ = _; rw [← hlt2]; exact decide_eq_true hc
        clear hlt2
        go_wp2_with (go_at_fn 63; refine hcon.mono ?_; rintro e w' ⟨rfl, hb'⟩)
        go_roundg (hi - ((lo + hi) / 2 + 1))
        case measure => omega
        case rel => exact ⟨(lo + hi) / 2 + 1, hi, by rw [show ((lo : Int) + (hi : Int)) / 2 + 1 = (((lo + hi) / 2 + 1 : Nat) : Int) by omega], rfl, by omega, hin, Nat.le_refl _, hbel.trans (hb'.mono hle), Lib.hid ⟨fun t _ ht => M1.out t (by omega) HL.out, I.out.2⟩⟩
      · have HL : Hid (Wr.less y1 n = false) := by show _ = _; rw [← hlt2]; exact decide_eq_false hc
        clear hlt2
        go_wp2_with (go_at_fn 63; refine hcon.mono ?_; rintro e w' ⟨rfl, hb'⟩)
        go_roundg ((lo + hi) / 2 - lo)
        case measure => omega
        case rel => exact ⟨lo, (lo + hi) / 2, rfl, by rw [show ((lo : Int) + (hi : Int)) / 2 = (((lo + hi) / 2 : Nat) : Int) by omega], by omega, by omega, Nat.le_refl _, hbel.trans (hb'.mono hle), Lib.hid ⟨I.out.1, fun t ht1 ht => M2.out t ht1 ht HL.out⟩⟩
    · obtain rfl : hi = lo := by omega
      obtain rfl : hi = p := At.uniq ⟨hin, I.out.1, I.out.2⟩ HP.out
      by_cases hn2 : hi < l.length
      · obtain ⟨b, off, rfl, hbl, hcc⟩ := HC.out (by rintro rfl; simp at hn2)
        obtain ⟨k1, k2⟩ := ff_cells (fun i u hu => (hbel.cell (p := ⟨b, off + hi * 2 + i, none⟩) hbl).trans (hcc _ hn2 i u hu))
        have HX := Lib.hid (HQ.out hn2)
        clear hcc HQ
        generalize l[hi] = y at *
        have hcon := fplace1_any y n wr
        have heq := cmp_eq y.1 n
        obtain ⟨y1, y2⟩ := y
        rw [HX.out] at heq
        simp only at k1 k2 hcon heq
        generalize Lib.compareBytes y1 n = cv at *
        have hbc : (cv == 0) = q := by rw [← heq]; by_cases h : cv = 0 <;> simp [h]
        clear heq
        go_wp2_with (go_at_fn 63; refine hcon.mono ?_; rintro e w' ⟨rfl, hb'⟩)
        go_ret2
        exact ⟨by simp, hbel.trans (hb'.mono hle)⟩
      · have HX := Lib.hid (HQ2.out hn2)
        go_wp2
        go_ret2
        exact ⟨by rw [HX.out]; rfl, hbel⟩
set_option maxRecDepth 100000 in
set_option maxHeartbeats 4000000 in
theorem fplace_any (v : Value) (l : List Wr.F) (n : Bs) (p : Nat) (q : Bool) (w : World) (hr : RowC 2 ff w w.heap.size v l) (hu : Up l) (hn : l.length < 1000000) (hp : At l n p) (hq : ∀ h : p < l.length, (l[p].1 == n) = q) (hq2 : ¬ p < l.length → q = false) :
    Calls Tryz.prog 54 #[v, .string (bs n)] w fun e w' => e = .returned (.tuple #[.int .i64 p, .bool q]) ∧ Below w.heap.size w w' := by
  have hcon := bsearch_any v l n p q w hr hu hn hp hq hq2
  clear hr hu hp hq hq2
  go_enter Tryz.func54, Tryz.ntmps54
  go_wp2_with (go_at_call 62; refine hcon.mono ?_; rintro e w' ⟨rfl, hb'⟩)
  go_ret2
  exact ⟨rfl, hb'⟩
set_option maxRecDepth 100000 in
set_option maxHeartbeats 4000000 in
theorem fget_any (v : Value) (l : List Wr.F) (n : Bs) (w : World) (hr : RowC 2 ff w w.heap.size v l) (hu : Up l) (hn : l.length < 1000000) :
    Calls Tryz.prog 43 #[v, .string (bs n)] w fun e w' => e = .returned (.tuple #[.string (bs (Rc.getF l n).1), .bool (Rc.getF l n).2]) ∧ Below w.heap.size w w' := by
  obtain ⟨p, hp⟩ := At.exists hu n
  by_cases hpl : p < l.length
  · by_cases he : l[p].1 = n
    · have HG := Lib.hid (getF_hit hp hpl he)
      have hcon := fplace_any v l n p true w hr hu hn hp (fun _ => by simpa using he) (fun h => absurd hpl h)
      obtain ⟨A, cap, rfl, c1, c2, c3⟩ := hr.shape
      obtain ⟨b, off, rfl, hbl, hcc⟩ := c3 (by rintro rfl; simp at hpl)
      obtain ⟨k1, k2⟩ := ff_cells (fun i u hu => hcc p hpl i u hu)
      have i0 : (0 : Int) ≤ (p : Int) := by omega
      have i1 : (p : Int) < (l.length : Int) := by omega
      clear he hp hcc c3 hr hu
      rw [HG.out]
      generalize l[p] = y at *
      clear HG
      obtain ⟨y1, y2⟩ := y
      simp only at k1 k2
      go_enter Tryz.func43, Tryz.ntmps43
      go_wp2_with (go_at_call 54; refine hcon.mono ?_; rintro e w' ⟨rfl, hb'⟩; have e1 := (hb'.cell (p := ⟨b, off + p * 2, none⟩) hbl).trans k1; have e2 := (hb'.cell (p := ⟨b, off + p * 2 + 1, none⟩) hbl).trans k2; dsimp only)
      go_ret2
      exact ⟨rfl, hb'⟩
    · rw [getF_miss hu hp (fun _ => he)]
      have hcon := fplace_any v l n p false w hr hu hn hp (fun _ => by simpa using he) (fun h => absurd hpl h)
      clear he hp hr hu
      go_enter Tryz.func43, Tryz.ntmps43
      go_wp2_with (go_at_call 54; refine hcon.mono ?_; rintro e w' ⟨rfl, hb'⟩)
      go_ret2
      exact ⟨rfl, hb'⟩
  · rw [getF_miss hu hp (fun h => absurd h hpl)]
    have hcon := fplace_any v l n p false w hr hu hn hp (fun h => absurd h hpl) (fun _ => rfl)
    clear hp hr hu
    go_enter Tryz.func43, Tryz.ntmps43
    go_wp2_with (go_at_call 54; refine hcon.mono ?_; rintro e w' ⟨rfl, hb'⟩)
    go_ret2
    exact ⟨rfl, hb'⟩
end Go.Proofs.YtiogmegdkfnkkaaGreatDoor
namespace Go.Proofs.YtiogmegdkfnkkaaGreatDoor
open Go.RowKit Tx

theorem contains_eq (ns : List Bs) (x : Bs) : Lib.containsS (ns.map bs) (bs x) = ns.any (fun m => m == x) := by
  rw [Bool.eq_iff_iff, Lib.containsS_iff, List.any_eq_true]
  constructor
  · intro h
    obtain ⟨m, hm, he⟩ := List.mem_map.1 h
    exact ⟨m, hm, by rw [bs_inj he]; simp⟩
  · rintro ⟨m, hm, he⟩
    exact List.mem_map.2 ⟨m, hm, by rw [beq_iff_eq.1 he]⟩
theorem slAddr_zero (b off m s : Nat) : slAddr (some ⟨b, off, none⟩) 0 m s = some ⟨b, off, none⟩ := by
  unfold slAddr
  split
  · rfl
  · simp [Addr.add_lit]
theorem contains_at (b off k c : Nat) (ns : List Bs) (x : Bs) (w : World) (hk : k ≤ ns.length) (hn : ns.length < 1000000) (hc : ∀ j (h : j < ns.length), w.cell? ⟨b, off + j, none⟩ = some (vs ns[j])) :
    Calls Tryz.prog 44 #[.slice (some ⟨b, off, none⟩) k c, .string (bs x)] w fun e w' => e = .returned (.bool ((ns.take k).any fun m => m == x)) ∧ w' = w := by
  have h := Tryz.slices_Contains_string b off k c (ns.map bs) (bs x) w (by simpa using hk) (by omega) (fun j hj => by
    simp only [List.length_map] at hj
    rw [hc j hj]
    simp [hj])
  rw [← List.map_take, contains_eq] at h
  exact h
/-- 'out = append(out, x)', x what was read, in a block of its own. -/
theorem wpList_seenE {w0 : World} {ops : Array Oper} {rest : List Oper} {o : Oper} {a : Act} {Q : Exit → Act → World → Prop} (t e : TypeId) (ht : Tryz.prog.underlying t = some (.slice e)) (hinf : (Tryz.prog.info? e).map (fun i => (i.zero, i.size, i.bytes)) = some (some (.agg #[.string ⟨#[]⟩, .bool false, .string ⟨#[]⟩]), 3, 40)) (hgd : o.guard = none) (s x : Operand)
    (ho : o.op = .call { callee := .builtin .append, args := #[s, x], argTypes := #[t, t] })
    (base : Nat) (v : Value) (l : List Rc.Seen) (u : Rc.Seen) (hs : a.eval s = v) (hx : a.eval x = .slice (some ⟨w0.heap.size, 0, none⟩) 1 1)
    (hown : OwnC e 3 sf base w0 v l) (hb : base ≤ w0.heap.size) (hl : l.length < 1000000)
    (h : ∀ v' w', OwnC e 3 sf base w' v' (l ++ [u]) → Below base w0 w' → wpList Tryz.prog ops Q rest (a.put o.dst v') w') :
    wpList Tryz.prog ops Q (o :: rest) a (w0.alloc (.cells #[.string (bs u.1), .bool u.2.1, .string (bs u.2.2)] e)) := by
  obtain ⟨i0, hi0, hz0, hz1, hz2⟩ := info_parts hinf
  refine wpList_appN hgd s x t ho base e i0 _ 3 40 ht hi0 hz0 hz1 hz2 rfl (by decide) v l.length (l.flatMap sf) (sf u) rfl (by simp [Value.oneCell']) hs _ rfl hx hown hb (by simp only [maxLen]; omega) (by omega) ?_
  intro v' w' h1 h2 _
  exact h v' w' (by simpa [OwnC] using h1) (grown_below hown hb h2)
theorem lookTo_len (l : List Wr.F) (ns : List Bs) (k : Nat) : (Rc.lookTo l ns k).length ≤ k := by
  induction k with
  | zero => simp [Rc.lookTo]
  | succ k ih =>
    unfold Rc.lookTo
    rw [List.length_append]
    split
    · simp; omega
    · split <;> simp <;> omega
set_option maxRecDepth 100000 in
set_option maxHeartbeats 4000000 in
theorem look_any (v1 v2 : Value) (l : List Wr.F) (ns : List Bs) (w : World) (hr : RowC 2 ff w w.heap.size v1 l) (hr2 : Row vs w w.heap.size v2 ns) (hu : Up l) (hn : l.length < 1000000) (hm : ns.length < 1000000) :
    Calls Tryz.prog 29 #[v1, v2] w fun e w' => ∃ o, e = .returned o ∧ RowC 3 sf w' w'.heap.size o (Rc.look l ns) ∧ (∀ b, blkOf o = some b → w.heap.size ≤ b) ∧ Below w.heap.size w w' := by
  obtain ⟨A2, cap2, rfl, c1, c2, c3⟩ := hr2.shape
  have HR := Lib.hid hr
  have HC := Lib.hid c3
  clear c3 hr hr2
  go_enter Tryz.func29, Tryz.ntmps29
  go_wp2_with fail
  go_loopw [5, 12] (fun o i wr => ∃ k : Nat, k ≤ ns.length ∧ i = .int .i64 k ∧ OwnC 44 3 sf w.heap.size wr o (Rc.lookTo l ns k) ∧ Below w.heap.size w wr) (fun _ i _ => ns.length - (RowKit.intOf i).toNat)
  case atStart => exact ⟨0, Nat.zero_le _, rfl, OwnC.nil _ _ _ _ _, Below.refl _ _⟩
  case round =>
    obtain ⟨k, hk, rfl, hown, hbel⟩ := hrel
    have hle := hbel.size
    have hol := lookTo_len l ns k
    by_cases hlt : k < ns.length
    · obtain ⟨b, off, rfl, hbl, hcc⟩ := HC.out (by rintro rfl; simp at hlt)
      have hcw : ∀ j (h : j < ns.length), wr.cell? ⟨b, off + j, none⟩ = some (vs ns[j]) := fun j h => (hbel.cell (p := ⟨b, off + j, none⟩) hbl).trans (hcc j h)
      have k1 := hcw k hlt
      have hcon := contains_at b off k cap2 ns ns[k] wr hk hm hcw
      have HT := Lib.hid (Rc.lookTo_at l ns k hlt)
      have HO := Lib.hid hown
      have hget := fget_any v1 l ns[k] wr ((HR.out.below hbel (Nat.le_refl _)).more hle) hu hn
      have HSE : Hid (Rc.seenOf l ns[k] = (ns[k], (Rc.getF l ns[k]).2, (Rc.getF l ns[k]).1)) := Lib.hid rfl
      clear hcc hcw hown
      generalize ns[k] = n at *
      generalize hgf : Rc.getF l n = gf at *
      obtain ⟨gt, gi⟩ := gf
      clear hgf
      simp only at hget
      have i0 : (0 : Int) ≤ (k : Int) := by omega
      have i1 : (k : Int) < (ns.length : Int) := by omega
      have i2 : (k : Int) ≤ (cap2 : Int) := by omega
      generalize hq : ((ns.take k).any fun m => m == n) = q at *
      clear hq
      cases q with
      | true =>
        go_wp2_with (go_at_call 44; rw [slAddr_zero]; refine hcon.mono ?_; rintro e w' ⟨rfl, rfl⟩)
        go_roundw
        case rel => exact ⟨k + 1, by omega, by go_num, by rw [HT.out]; simpa using HO.out, hbel⟩
        case measure => simp [RowKit.intOf]; omega
      | false =>
        go_wp2_with (first
          | (go_at_call 44; rw [slAddr_zero]; refine hcon.mono ?_; rintro e w' ⟨rfl, rfl⟩)
          | (go_at_call 43; refine hget.mono ?_; rintro e w2 ⟨rfl, hb2⟩)
          | (at_builtin; refine wpList_seenE 39 44 Tryz.underlying39 pnInfo (by rfl) (.tmp 29) (.tmp 34) (by rfl) w.heap.size _ (Rc.lookTo l ns k) (n, gi, gt) (by rfl) (by rfl) (HO.out.below hb2) (Nat.le_trans hle hb2.size) (by omega) ?_; intro v' w4 h8 h9))
        go_roundw
        case rel => exact ⟨k + 1, by omega, by go_num, by rw [HT.out, HSE.out]; exact h8, hbel.trans ((hb2.mono hle).trans h9)⟩
        case measure => simp [RowKit.intOf]; omega
    · obtain rfl : k = ns.length := by omega
      go_wp2_with fail
      go_ret
      exact ⟨_, rfl, hown.rowC sf_length, fun b hb => (hown.lt b (own_blk hb)).1, hbel⟩
end Go.Proofs.YtiogmegdkfnkkaaGreatDoor
namespace Go.Proofs.YtiogmegdkfnkkaaGreatDoor
open Go.RowKit Tx

theorem first_at (l : List Rc.Rec) (rule : Bs) : (∃ k, ∃ h : k < l.length, (l.take k).any (fun y => y.1 == rule) = false ∧ (l[k].1 == rule) = true) ∨ l.any (fun y => y.1 == rule) = false := by
  induction l with
  | nil => exact .inr rfl
  | cons y l ih =>
    cases hy : y.1 == rule with
    | true => exact .inl ⟨0, by simp, by simp, by simpa using hy⟩
    | false =>
      rcases ih with ⟨k, h, h1, h2⟩ | h
      · exact .inl ⟨k + 1, by simp; omega, by rw [List.take_succ_cons, List.any_cons, hy, h1]; rfl, by simpa using h2⟩
      · exact .inr (by rw [List.any_cons, hy, h]; rfl)
theorem any_take_hit {l : List Rc.Rec} {rule : Bs} {k j : Nat} (hk : k < l.length) (h2 : (l[k].1 == rule) = true) (hj : (l.take j).any (fun y => y.1 == rule) = false) : j ≤ k := by
  rcases Nat.lt_or_ge k j with h | h
  · exfalso
    have := List.any_eq_false.1 hj l[k] (List.mem_take_iff_getElem.2 ⟨k, by omega, rfl⟩)
    exact this h2
  · exact h
theorem Hit.at {l : List Rc.Rec} {rule : Bs} {j : Int} (h : Hit l rule j) {k : Nat} (hk : k < l.length) (h1 : (l.take k).any (fun y => y.1 == rule) = false) (h2 : (l[k].1 == rule) = true) : j = k := by
  rcases h with ⟨k', rfl, hk', h3, h4⟩ | ⟨_, h3⟩
  · have a := any_take_hit hk h2 h3
    have b := any_take_hit hk' h4 h1
    omega
  · exact absurd h2 (List.any_eq_false.1 h3 _ (List.getElem_mem hk))
theorem Hit.none {l : List Rc.Rec} {rule : Bs} {j : Int} (h : Hit l rule j) (h1 : l.any (fun y => y.1 == rule) = false) : j = -1 := by
  rcases h with ⟨k', rfl, hk', h3, h4⟩ | ⟨h3, _⟩
  · exact absurd h4 (List.any_eq_false.1 h1 _ (List.getElem_mem hk'))
  · exact h3
theorem place_hit {v : Value} {l : List Rc.Rec} {rule : Bs} {w : World} (hr : RowR w w.heap.size v l) (hn : l.length < 1000000) {k : Nat} (hk : k < l.length) (h1 : (l.take k).any (fun y => y.1 == rule) = false) (h2 : (l[k].1 == rule) = true) :
    Calls Tryz.prog 41 #[v, .string (bs rule)] w fun e w' => e = .returned (.int .i64 k) ∧ Below w.heap.size w w' :=
  (place_any v l rule w hr hn).mono fun _ _ ⟨j, he, hj, hb⟩ => ⟨by rw [he, hj.at hk h1 h2], hb⟩
theorem place_miss {v : Value} {l : List Rc.Rec} {rule : Bs} {w : World} (hr : RowR w w.heap.size v l) (hn : l.length < 1000000) (h1 : l.any (fun y => y.1 == rule) = false) :
    Calls Tryz.prog 41 #[v, .string (bs rule)] w fun e w' => e = .returned (.int .i64 (-1)) ∧ Below w.heap.size w w' :=
  (place_any v l rule w hr hn).mono fun _ _ ⟨j, he, hj, hb⟩ => ⟨by rw [he, hj.none h1], hb⟩
theorem RecIs.zero (w : World) (B : Nat) : RecIs w B ([], .slice none 0 0, .slice none 0 0) ([], [], []) := ⟨rfl, ⟨0, by simp, by decide, .inl ⟨rfl, none, rfl⟩⟩, ⟨0, by simp, by decide, .inl ⟨rfl, none, rfl⟩⟩⟩
theorem cells3 {w : World} {g : Nat} {a b c : Value} {t : TypeId} (h : w.heap[g]? = some (.cells #[a, b, c] t (0, 0))) :
    w.cell? ⟨g, 0, none⟩ = some a ∧ w.cell? ⟨g, 1, none⟩ = some b ∧ w.cell? ⟨g, 2, none⟩ = some c ∧ w.frozen? ⟨g, 0, none⟩ = false ∧ w.frozen? ⟨g, 1, none⟩ = false ∧ w.frozen? ⟨g, 2, none⟩ = false := by
  simp [World.cell?, World.frozen?, h]
theorem set3_same {w : World} {g : Nat} {a b c x y z : Value} {t : TypeId} (h : w.heap[g]? = some (.cells #[a, b, c] t (0, 0))) :
    (((w.setCell ⟨g, 0, none⟩ x).setCell ⟨g, 1, none⟩ y).setCell ⟨g, 2, none⟩ z).heap[g]? = some (.cells #[x, y, z] t (0, 0)) := cells_setCell (cells_setCell (cells_setCell h x) y) z

/-- What is found, as it is returned. -/
def FoundIs (l : List Rc.Rec) (rule : Bs) (w : World) (e : Ending) (w' : World) : Prop :=
  ∃ r : Raw, e = .returned (.tuple #[.agg #[.string (bs r.1), r.2.1, r.2.2], .bool (Rc.find l rule).isSome]) ∧ RecIs w' w'.heap.size r ((Rc.find l rule).getD ([], [], [])) ∧ Below w.heap.size w w'
set_option maxRecDepth 100000 in
set_option maxHeartbeats 4000000 in
theorem find_miss (v : Value) (l : List Rc.Rec) (rule : Bs) (w : World) (hr : RowR w w.heap.size v l) (hn : l.length < 1000000) (h1 : l.any (fun y => y.1 == rule) = false) :
    Calls Tryz.prog 26 #[v, .string (bs rule)] w (FoundIs l rule w) := by
  have hb : Below w.heap.size w (w.alloc (.cells #[.string ⟨#[]⟩, .slice none 0 0, .slice none 0 0] 42)) := (Below.refl _ _).alloc (Nat.le_refl _) _
  have hcon := place_miss (hr.step hb) hn h1
  have HF := Lib.hid (Rc.find_none l rule h1)
  have hnew : (w.alloc (.cells #[.string ⟨#[]⟩, .slice none 0 0, .slice none 0 0] 42)).heap[w.heap.size]? = some (.cells #[.string ⟨#[]⟩, .slice none 0 0, .slice none 0 0] 42) := heap_alloc_new _ _
  clear hr h1
  go_enter Tryz.func26, Tryz.ntmps26
  go_wp2_with (go_at_call 41; refine hcon.mono ?_; rintro e w1 ⟨rfl, hb1⟩; have hg1 := (hb1.block _ (by simp)).trans hnew; obtain ⟨c0, c1, c2, f0, f1, f2⟩ := cells3 hg1; dsimp only)
  have hg2 := set3_same (x := .string ⟨#[]⟩) (y := .slice none 0 0) (z := .slice none 0 0) hg1
  obtain ⟨d0, d1, d2, _, _, _⟩ := cells3 hg2
  refine bodyPost_ret (v := .tuple #[.agg #[.string ⟨#[]⟩, .slice none 0 0, .slice none 0 0], .bool false]) (by
    simp [results, Tryz.f26, go_sem, d0, d1, d2]) rfl ?_
  unfold FoundIs
  refine ⟨([], .slice none 0 0, .slice none 0 0), by rw [HF.out]; rfl, by rw [HF.out]; exact RecIs.zero _ _, ?_⟩
  exact (((hb.trans (hb1.mono (by simp))).setCell (p := ⟨w.heap.size, 0, none⟩) (by simp) _).setCell (p := ⟨w.heap.size, 1, none⟩) (by simp) _).setCell (p := ⟨w.heap.size, 2, none⟩) (by simp) _
set_option maxRecDepth 100000 in
set_option maxHeartbeats 4000000 in
theorem find_hit (v : Value) (l : List Rc.Rec) (rule : Bs) (w : World) (hr : RowR w w.heap.size v l) (hn : l.length < 1000000) (hs : ∀ x ∈ l, x.2.1.length ≤ 1000000 ∧ x.2.2.length ≤ 1000000) {k : Nat} (hk : k < l.length) (h1 : (l.take k).any (fun y => y.1 == rule) = false) (h2 : (l[k].1 == rule) = true) :
    Calls Tryz.prog 26 #[v, .string (bs rule)] w (FoundIs l rule w) := by
  have hb : Below w.heap.size w (w.alloc (.cells #[.string ⟨#[]⟩, .slice none 0 0, .slice none 0 0] 42)) := (Below.refl _ _).alloc (Nat.le_refl _) _
  have hcon := place_hit (hr.step hb) hn hk h1 h2
  have HF := Lib.hid (Rc.find_at l rule k hk h1 h2)
  have hnew : (w.alloc (.cells #[.string ⟨#[]⟩, .slice none 0 0, .slice none 0 0] 42)).heap[w.heap.size]? = some (.cells #[.string ⟨#[]⟩, .slice none 0 0, .slice none 0 0] 42) := heap_alloc_new _ _
  obtain ⟨A, cap, rfl, c1, c2, c3⟩ := hr.shape
  obtain ⟨b, off, rfl, hbl, ⟨x0, r1, r2⟩, ⟨j1, j2, j3⟩, hrec⟩ := c3 k hk
  obtain ⟨l1, l2⟩ := hs _ (List.getElem_mem hk)
  simp only at j1 j2 j3
  generalize l[k] = x at *
  have HR := Lib.hid hrec
  have i0 : (0 : Int) ≤ (k : Int) := by omega
  have i1 : (k : Int) < (l.length : Int) := by omega
  have i2 : ((k : Int) < 0) = False := by simp
  clear hr h1 h2 c3 hrec hs
  go_enter Tryz.func26, Tryz.ntmps26
  go_wp2_with (first
    | (go_at_call 41; refine hcon.mono ?_; rintro e w1 ⟨rfl, hb1⟩; have hg1 := (hb1.block _ (by simp)).trans hnew; have hb2 := hb.trans (hb1.mono (by simp)); have k1 := (hb2.cell (p := ⟨b, off + k * 3, none⟩) hbl).trans j1; have k2 := (hb2.cell (p := ⟨b, off + k * 3 + 1, none⟩) hbl).trans j2; have k3 := (hb2.cell (p := ⟨b, off + k * 3 + 2, none⟩) hbl).trans j3; have hrec1 := (HR.out.below hb2 (Nat.le_refl _)).more hb2.size; have hlt1 := lt_of_block hg1; dsimp only)
    | (go_at_call 42; refine (own_any (x0, r1, r2) x _ hrec1 l1 l2).mono ?_; rintro e w2 ⟨⟨y0, y1, y2⟩, rfl, q1, q2, q3, hb3⟩; have hg2 := (hb3.block _ hlt1).trans hg1; obtain ⟨c0, c1, c2, f0, f1, f2⟩ := cells3 hg2; have hy0 := q1.rule; obtain ⟨B1, p1, hy1, _, _, _⟩ := q1.reads.shape; obtain ⟨B2, p2, hy2, _, _, _⟩ := q1.writes.shape; simp only at hy0 hy1 hy2; subst hy0 hy1 hy2; dsimp only))
  have hg3 := set3_same (x := .string (bs x.1)) (y := .slice B1 x.2.1.length p1) (z := .slice B2 x.2.2.length p2) hg2
  obtain ⟨d0, d1, d2, _, _, _⟩ := cells3 hg3
  refine bodyPost_ret (v := .tuple #[.agg #[.string (bs x.1), .slice B1 x.2.1.length p1, .slice B2 x.2.2.length p2], .bool true]) (by
    simp [results, Tryz.f26, go_sem, d0, d1, d2]) rfl ?_
  unfold FoundIs
  refine ⟨(x.1, .slice B1 x.2.1.length p1, .slice B2 x.2.2.length p2), by rw [HF.out]; rfl, ?_, ?_⟩
  · rw [HF.out]
    refine q1.blk (by simp [World.setCell]) fun c hc hor => ?_
    refine set3_oth _ _ _ _ _ _ (fun e => ?_)
    subst e
    rcases hor with ⟨_, h⟩ | ⟨_, h⟩
    · have := q2 _ h; omega
    · have := q3 _ h; omega
  · exact (((hb2.trans (hb3.mono hb2.size)).setCell (p := ⟨w.heap.size, 0, none⟩) (by simp) _).setCell (p := ⟨w.heap.size, 1, none⟩) (by simp) _).setCell (p := ⟨w.heap.size, 2, none⟩) (by simp) _
theorem find_any (v : Value) (l : List Rc.Rec) (rule : Bs) (w : World) (hr : RowR w w.heap.size v l) (hn : l.length < 1000000) (hs : ∀ x ∈ l, x.2.1.length ≤ 1000000 ∧ x.2.2.length ≤ 1000000) :
    Calls Tryz.prog 26 #[v, .string (bs rule)] w (FoundIs l rule w) := by
  rcases first_at l rule with ⟨k, hk, h1, h2⟩ | h
  · exact find_hit v l rule w hr hn hs hk h1 h2
  · exact find_miss v l rule w hr hn h
end Go.Proofs.YtiogmegdkfnkkaaGreatDoor
namespace Go.Proofs.YtiogmegdkfnkkaaGreatDoor
open Go.RowKit Tx

theorem step_appN2 {P : Program} {w : World} {ops : Array Oper} {o : Oper} {a : Act} {K : Act → World → Prop} {Q : Exit → Act → World → Prop} {E : Prop} (hgd : o.guard = none) (s x : Operand) (t : TypeId)
    (ho : o.op = .call { callee := .builtin .append, args := #[s, x], argTypes := #[t, t] })
    (base : Nat) (e : TypeId) (i : TypeInfo) (z : Value) (size bytes : Nat) (ht : P.underlying t = some (.slice e)) (hi : P.info? e = some i) (hz : i.zero = some z)
    (hsize : i.size = size) (hby : i.bytes = bytes) (hzs : z.cells.size = size) (hsz : 0 < size)
    (v : Value) (n : Nat) (xs : List Value) (us : List Value) (hus : us.length = size) (hone : ∀ y ∈ us, y.oneCell' = true) (hs : a.eval s = v) (g : Nat) (hx : a.eval x = .slice (some ⟨g, 0, none⟩) 1 1)
    (hg : w.heap[g]? = some (.cells us.toArray e (0, 0)))
    (hown : w.ownsRow base e size v n xs) (hb : base ≤ w.heap.size)
    (h63 : n + 1 ≤ maxLen) (hbytes : (n + 1) * bytes ≤ 140737488355328)
    (h : ∀ v' w', w'.ownsRow base e size v' (n + 1) (xs ++ us) → w.grownBy w' v.ownBlock → (∀ k, v'.ownBlock = some k → v.ownBlock = some k ∨ w.heap.size ≤ k) → K (a.put o.dst v') w') :
    if Region.wanted o (yielded ops a.tmps) = true then Oper.wp P o a w K Q else E := by
  have hw : Region.wanted o (yielded ops a.tmps) = true := by simp [Region.wanted, hgd]
  rw [if_pos hw]
  have hnews : ∀ j y, us[j]? = some y → w.cell? ((⟨g, 0, none⟩ : Addr).add j) = some y := by
    intro j y hj
    rw [Addr.add_lit]
    simp only [Nat.zero_add]
    rw [cell_of_row _ g j _ e (0, 0) hg]
    simpa using hj
  obtain ⟨v', w', hr, h2, h3, _⟩ := run_append_own (P := P) w base t o.type e i z size bytes ht hi hz hsize hby hzs hsz v n xs hown ⟨g, 0, none⟩ 1 1 us (by omega) hnews hone h63 hbytes hb
  have h4 := append_own_blk (P := P) w base t o.type e i z size bytes ht hi hz hsize hby hzs hsz v n xs hown ⟨g, 0, none⟩ 1 1 us (by omega) hnews hone h63 hbytes v' w' hr
  have key := h v' w' h2 h3 h4
  unfold Oper.wp execOp
  simp only [ho, resolve, invoke, builtin, Sem.run_bind, Sem.run_pure, Result.andThen_ok, List.map_toArray, List.map_cons, List.map_nil, hs, hx, hr]
  exact key

theorem rrInfo : (Tryz.prog.info? 52).map (fun i => (i.zero, i.size, i.bytes)) = some (some (.agg #[.string ⟨#[]⟩, .slice none 0 0, .slice none 0 0]), 3, 64) := by kernel_rfl
theorem prInfo : (Tryz.prog.info? 42).map (fun i => (i.zero, i.size, i.bytes)) = some (some (.agg #[.string ⟨#[]⟩, .slice none 0 0, .slice none 0 0]), 3, 64) := by kernel_rfl
theorem rowC_one {α : Type} {n : Nat} {f : α → List Value} {w : World} {B : Nat} {v : Value} {xs : List α} (h : RowC n f w B v xs) : v.oneCell' = true := by
  obtain ⟨A, c, rfl, _⟩ := h.shape
  rfl
theorem recIs_ones {w : World} {B : Nat} {r : Raw} {x : Rc.Rec} (h : RecIs w B r x) : ∀ y ∈ rf r, y.oneCell' = true := by
  intro y hy
  simp only [rf, List.mem_cons, List.not_mem_nil, or_false] at hy
  rcases hy with rfl | rfl | rfl
  · rfl
  · exact rowC_one h.reads
  · exact rowC_one h.writes
/-- 'out = append(out, x)', x a record in a block of its own: in a region that draws its order. -/
theorem step_recE {w : World} {ops : Array Oper} {o : Oper} {a : Act} {K : Act → World → Prop} {Q : Exit → Act → World → Prop} {E : Prop} (t e : TypeId) (ht : Tryz.prog.underlying t = some (.slice e)) (hinf : (Tryz.prog.info? e).map (fun i => (i.zero, i.size, i.bytes)) = some (some (.agg #[.string ⟨#[]⟩, .slice none 0 0, .slice none 0 0]), 3, 64)) (hgd : o.guard = none) (s x : Operand)
    (ho : o.op = .call { callee := .builtin .append, args := #[s, x], argTypes := #[t, t] })
    (base : Nat) (v : Value) (l : List Rc.Rec) (r : Raw) (u : Rc.Rec) (hs : a.eval s = v) (g : Nat) (hx : a.eval x = .slice (some ⟨g, 0, none⟩) 1 1)
    (hg : w.heap[g]? = some (.cells #[.string (bs r.1), r.2.1, r.2.2] e (0, 0)))
    (hown : OwnR e base w v l) (hr : RecIs w w.heap.size r u) (haw : Away v.ownBlock r u) (hb : base ≤ w.heap.size) (hl : l.length < 1000000)
    (h : ∀ v' w', OwnR e base w' v' (l ++ [u]) → Below base w w' → w.grownBy w' v.ownBlock → K (a.put o.dst v') w') :
    if Region.wanted o (yielded ops a.tmps) = true then Oper.wp Tryz.prog o a w K Q else E := by
  obtain ⟨i0, hi0, hz0, hz1, hz2⟩ := info_parts hinf
  obtain ⟨rs, h1, h2, h3⟩ := hown
  refine step_appN2 hgd s x t ho base e i0 _ 3 64 ht hi0 hz0 hz1 hz2 rfl (by decide) v rs.length (rs.flatMap rf) (rf r) rfl (recIs_ones hr) hs g hx hg h1 hb (by simp only [maxLen]; omega) (by omega) ?_
  intro v' w' k1 k2 k3
  exact h v' w' (OwnR.snoc h3 h2 hr haw (by simpa [OwnC] using k1) k2 k3) (grown_below h1 hb k2) k2
/-- the same in a list of operations -/
theorem wpList_recE {w0 : World} {ops : Array Oper} {rest : List Oper} {o : Oper} {a : Act} {Q : Exit → Act → World → Prop} (t e : TypeId) (ht : Tryz.prog.underlying t = some (.slice e)) (hinf : (Tryz.prog.info? e).map (fun i => (i.zero, i.size, i.bytes)) = some (some (.agg #[.string ⟨#[]⟩, .slice none 0 0, .slice none 0 0]), 3, 64)) (hgd : o.guard = none) (s x : Operand)
    (ho : o.op = .call { callee := .builtin .append, args := #[s, x], argTypes := #[t, t] })
    (base : Nat) (v : Value) (l : List Rc.Rec) (r : Raw) (u : Rc.Rec) (hs : a.eval s = v) (hx : a.eval x = .slice (some ⟨w0.heap.size, 0, none⟩) 1 1)
    (hown : OwnR e base w0 v l) (hr : RecIs w0 w0.heap.size r u) (haw : Away v.ownBlock r u) (hb : base ≤ w0.heap.size) (hl : l.length < 1000000)
    (h : ∀ v' w', OwnR e base w' v' (l ++ [u]) → Below base w0 w' → wpList Tryz.prog ops Q rest (a.put o.dst v') w') :
    wpList Tryz.prog ops Q (o :: rest) a (w0.alloc (.cells #[.string (bs r.1), r.2.1, r.2.2] e)) := by
  obtain ⟨i0, hi0, hz0, hz1, hz2⟩ := info_parts hinf
  obtain ⟨rs, h1, h2, h3⟩ := hown
  refine wpList_appN hgd s x t ho base e i0 _ 3 64 ht hi0 hz0 hz1 hz2 rfl (by decide) v rs.length (rs.flatMap rf) (rf r) rfl (recIs_ones hr) hs _ rfl hx h1 hb (by simp only [maxLen]; omega) (by omega) ?_
  intro v' w' k1 k2 k3
  exact h v' w' (OwnR.snoc h3 h2 hr haw (by simpa [OwnC] using k1) k2 k3) (grown_below h1 hb k2)

/-- What a record leads to lies ahead of, or behind, a block. -/
theorem Away.of {w : World} {base : Nat} {e : TypeId} {v : Value} {l : List Rc.Rec} {r : Raw} {x : Rc.Rec} (hown : OwnR e base w v l)
    (h1 : ∀ b, blkOf r.2.1 = some b → x.2.1 ≠ [] → b < base ∨ w.heap.size ≤ b) (h2 : ∀ b, blkOf r.2.2 = some b → x.2.2 ≠ [] → b < base ∨ w.heap.size ≤ b) : Away v.ownBlock r x := by
  obtain ⟨rs, k1, _⟩ := hown
  intro b hb
  have := k1.lt b hb
  refine ⟨fun hne e => ?_, fun hne e => ?_⟩
  · have := h1 b e hne; omega
  · have := h2 b e hne; omega

set_option maxRecDepth 100000 in
set_option maxHeartbeats 4000000 in
theorem refs_any (v : Value) (l : List Rc.Rec) (w : World) (hr : RowR w w.heap.size v l) (hn : l.length < 1000000) (hs : ∀ x ∈ l, x.2.1.length < 1000000) :
    Calls Tryz.prog 7 #[v] w fun e w' => ∃ o, e = .returned o ∧ RowR w' w'.heap.size o l ∧ Below w.heap.size w w' := by
  obtain ⟨A, cap, rfl, c1, c2, c3⟩ := hr.shape
  have HC := Lib.hid c3
  have HS := Lib.hid hs
  have hmade := OwnR.made 52 w.heap.size w (Nat.le_refl _)
  clear c3 hr hs
  go_enter Tryz.func7, Tryz.ntmps7
  go_wp2_with fail
  go_loopw [3, 4] (fun o i wr => ∃ k : Nat, k ≤ l.length ∧ i = .int .i64 k ∧ OwnR 52 w.heap.size wr o (l.take k) ∧ Below w.heap.size w wr) (fun _ i _ => l.length - (RowKit.intOf i).toNat)
  case atStart => exact ⟨0, Nat.zero_le _, rfl, hmade, (Below.refl _ _).alloc (Nat.le_refl _) _⟩
  case round =>
    clear hmade
    obtain ⟨k, hk, rfl, hown, hbel⟩ := hrel
    have hle := hbel.size
    have hol : (l.take k).length ≤ k := by simp; omega
    by_cases hlt : k < l.length
    · obtain ⟨b, off, rfl, hbl, ⟨x0, r1, r2⟩, ⟨j1, j2, j3⟩, hrec⟩ := HC.out k hlt
      have k1 := (hbel.cell (p := ⟨b, off + k * 3, none⟩) hbl).trans j1
      have k2 := (hbel.cell (p := ⟨b, off + k * 3 + 1, none⟩) hbl).trans j2
      have k3 := (hbel.cell (p := ⟨b, off + k * 3 + 2, none⟩) hbl).trans j3
      simp only at k1 k2 k3
      clear j1 j2 j3
      have HA : Hid (l.take (k + 1) = l.take k ++ [l[k]]) := Lib.hid (List.take_succ_eq_append_getElem hlt)
      have hsl := HS.out l[k] (List.getElem_mem hlt)
      generalize l[k] = x at *
      obtain ⟨A1, p1, hr1, _, _, _⟩ := hrec.reads.shape
      obtain ⟨A2, p2, hr2, _, _, _⟩ := hrec.writes.shape
      simp only at hr1 hr2
      subst hr1 hr2
      have HRW := Lib.hid hrec
      have HRC := Lib.hid (hrec.below (hbel.trans (below_of_drewN 1)) (Nat.le_refl _))
      have HO := Lib.hid (hown.below (below_of_drewN (a := wr) 1))
      have HX0 := Lib.hid hrec.rule
      have hcon := lseens_any (.slice A1 x.2.1.length p1) x.2.1 wr.drew (HRC.out.reads.more hle) hsl
      clear hown hrec
      have i0 : (0 : Int) ≤ (k : Int) := by omega
      have i1 : (k : Int) < (l.length : Int) := by omega
      go_upto_region 5 with fail
      go_region_held3 (fun wx => wx.cell? ⟨b, off + k * 3, none⟩ = some (.string (bs x0)) ∧ wx.cell? ⟨b, off + k * 3 + 1, none⟩ = some (.slice A1 x.2.1.length p1) ∧ wx.cell? ⟨b, off + k * 3 + 2, none⟩ = some (.slice A2 x.2.2.length p2)) (go_keep) (first
        | (have y := q1; refine step_recE 28 52 Tryz.underlying28 rrInfo (by rfl) (.tmp 12) (.tmp 30) (by rfl) w.heap.size _ (l.take k) (x0, .slice Ao x.2.1.length co, .slice A2 x.2.2.length p2) x (by rfl) w1.heap.size (by rfl) (heap_alloc_new _ _) ((HO.out.below hb1).below ((Below.refl _ _).alloc (Nat.le_refl _) _)) (h5.step ((Below.refl _ _).alloc (Nat.le_refl _) _)) h6 (Nat.le_trans (Nat.le_trans hle hb1.size) (by simp)) (by omega) ?_; intro v' w4 h8 h9 h10; have f0 := (h9.cell (p := ⟨b, off + k * 3, none⟩) hbl).trans (Lib.cell?_alloc_marked _ e0); have f1 := (h9.cell (p := ⟨b, off + k * 3 + 1, none⟩) hbl).trans (Lib.cell?_alloc_marked _ e1); have f2 := (h9.cell (p := ⟨b, off + k * 3 + 2, none⟩) hbl).trans (Lib.cell?_alloc_marked _ e2); dsimp only)
        | (go_at_call 18; refine hcon.mono ?_; rintro e w1 ⟨o, rfl, q1, q2, hb1⟩; obtain ⟨Ao, co, ho, _, _, _⟩ := q1.shape; subst ho; have h5 : RecIs w1 w1.heap.size (x0, .slice Ao x.2.1.length co, .slice A2 x.2.2.length p2) x := ⟨HX0.out, q1, ((HRC.out.below hb1 hle).more (Nat.le_trans hle hb1.size)).writes⟩; have h6 : Away _ (x0, Value.slice Ao x.2.1.length co, Value.slice A2 x.2.2.length p2) x := Away.of HO.out (fun b hb hne => .inr (q2 b hb)) (fun b hb hne => .inl (blk_lt HRC.out.writes hne hb)); have e0 := (hb1.cell (p := ⟨b, off + k * 3, none⟩) (Nat.lt_of_lt_of_le hbl hle)).trans k1; have e1 := (hb1.cell (p := ⟨b, off + k * 3 + 1, none⟩) (Nat.lt_of_lt_of_le hbl hle)).trans k2; have e2 := (hb1.cell (p := ⟨b, off + k * 3 + 2, none⟩) (Nat.lt_of_lt_of_le hbl hle)).trans k3; dsimp only))
      go_wp2_with fail
      go_roundw
      case rel => exact ⟨k + 1, by omega, by go_num, by rw [HA.out]; exact h8, hbel.trans ((below_of_drewN (a := wr) 1).trans ((hb1.mono hle).trans (((Below.refl _ _).alloc (Nat.le_trans hle hb1.size) _).trans h9)))⟩
      case measure => simp [RowKit.intOf]; omega
    · obtain rfl : k = l.length := by omega
      rw [List.take_length] at hown
      go_wp2_with fail
      go_ret
      exact ⟨_, rfl, hown.row, hbel⟩
end Go.Proofs.YtiogmegdkfnkkaaGreatDoor
