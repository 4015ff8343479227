/- A map[int]T that the call owns, by what it holds: g. T is any type: an element is its value. · The disk as a state; how a world holds it; the walks of has, use, Len, Pending, Limit. · The plain law of maps as bytes: what a map is; to parse one; a map's bytes are parsed as it was; a map that is put together is one. · files.Name and the reference's Name. · 'v = append(v, x)', x one cell: and where what comes back lies. What is owned, where its block is as it was. · Rows that a call owns, an element in n cells; append of one element to such a row. · Rows of files; files.Right and the reference's Right. -/
import Derived.Maps.Own
import Derived.Maps.OwnOps
import Derived.Maps.Views
import Derived.Test.YtkoegbjnhoecoaaGreatDoorRows
import Derived.Test.YtkoegbjnhoecoaaGreatDoorH1
import Derived.OpenShut
import GoSem.Op.String
import Derived.Test.YtkoegbjnhoecoaaGreatDoorShelf
import Derived.IntWalk
import Derived.Lib.SlBytesConst
namespace Go.Proofs.YtkoegbjnhoecoaaGreatDoor
open Go.Maps Go.RowKit

/-- an element reads as itself -/
def heldElem (v : Value) : Option (DataW Value × List MemPlace) := some (.held v, [])
def MapOf (w : World) (k : TypeId) (b n : Nat) (g : Int → Option Value) : Prop :=
  ∃ D : DataW Value, w.ownsMap Tryz.prog k heldElem b n D ∧ IsMap D ∧ ∀ i, (Lit.int .i64 i).wf = true → ∀ z, D.atKey (.int .i64 i) z = match g i with | some v => .held v | none => z

theorem MapOf.made (w : World) (k : TypeId) : MapOf (w.alloc (.map #[] 0)) k w.heap.size 0 fun _ => none :=
  ⟨.map [], World.ownsMap_made _ _ _ _, isMap_empty, fun _ _ _ => rfl⟩
theorem MapOf.mono {w : World} {k : TypeId} {b n n' : Nat} {g : Int → Option Value} (h : MapOf w k b n g) (hn : n ≤ n') : MapOf w k b n' g := by
  obtain ⟨D, h1, h2⟩ := h
  exact ⟨D, h1.mono hn, h2⟩
theorem MapOf.lt {w : World} {k : TypeId} {b n : Nat} {g : Int → Option Value} (h : MapOf w k b n g) : b < w.heap.size := by
  obtain ⟨D, h1, _⟩ := h
  exact h1.lt
theorem MapOf.keep {w w' : World} {k : TypeId} {b n : Nat} {g : Int → Option Value} (h : MapOf w k b n g) (hb : w'.heap[b]? = w.heap[b]?) : MapOf w' k b n g := by
  obtain ⟨D, ⟨es, clock, h1, h2⟩, h3⟩ := h
  exact ⟨D, ⟨es, clock, hb.trans h1, h2⟩, h3⟩
theorem MapOf.alloc {w : World} {k : TypeId} {b n : Nat} {g : Int → Option Value} (h : MapOf w k b n g) (o : Obj) : MapOf (w.alloc o) k b n g := by
  obtain ⟨D, h1, h2⟩ := h
  exact ⟨D, h1.alloc o, h2⟩
theorem MapOf.congr {w : World} {k : TypeId} {b n : Nat} {g g' : Int → Option Value} (h : MapOf w k b n g) (hg : ∀ i, g i = g' i) : MapOf w k b n g' := by
  rwa [show g' = g from funext fun i => (hg i).symm]

theorem MapOf.update {w : World} {k t e : TypeId} {b n : Nat} {g : Int → Option Value} (h : MapOf w k b n g) (hk : Tryz.prog.underlying k = some (.int .i64)) (ht : Tryz.prog.underlying t = some (.map k e)) (hn : n < maxLen)
    (i : Int) (hi : (Lit.int .i64 i).wf = true) (v : Value) :
    ∃ w', (Instr.mapUpdate t (.map (some b)) (.int .i64 i) v).run Tryz.prog w = .ok () w' ∧ MapOf w' k b (n + 1) (fun j => if j = i then some v else g j) ∧ w.grownBy w' (some b) := by
  obtain ⟨D, h1, h2, h3⟩ := h
  obtain ⟨w', hr, ho, hg⟩ := h1.update (int_keyed hk) ht hn (keyOf_int_mk hk hi) (show heldElem v = some (.held v, []) from rfl)
  refine ⟨w', hr, ⟨_, ho, h2.put _ _, fun j hj z => ?_⟩, hg⟩
  by_cases hji : j = i
  · subst hji
    simp only [if_true]
    exact atKey_put_same h2 ((int_keyed hk).key (keyOf_int_mk hk hi)) _ _
  · simp only [if_neg hji]
    rw [atKey_put_other (by simpa using hji)]
    exact h3 j hj z

theorem MapOf.look {w : World} {k t e : TypeId} {b n : Nat} {g : Int → Option Value} (h : MapOf w k b n g) (hk : Tryz.prog.underlying k = some (.int .i64)) (ht : Tryz.prog.underlying t = some (.map k e)) {z : Value} (hz : (zeroValue e).run Tryz.prog w = .ok z w)
    (c : Bool) (i : Int) (hi : (Lit.int .i64 i).wf = true) :
    (Instr.lookup t (.map (some b)) (.int .i64 i) c).run Tryz.prog w = .ok (if c then .tuple #[(g i).getD z, .bool (g i).isSome] else (g i).getD z) w := by
  obtain ⟨D, ⟨es, clock, hb, F, _, rfl⟩, _, h3⟩ := h
  rcases Maps.fit_look c (int_keyed hk) ht hz hb F (keyOf_int_mk hk hi) with ⟨hrun, _, hat⟩ | ⟨e0, y, _, _, hrun, hRv, hat, _⟩
  · have hgi : g i = none := by
      cases hgi : g i with
      | none => rfl
      | some v =>
        have := (h3 i hi .nil).symm.trans (hat .nil)
        rw [hgi] at this
        cases this
    rw [hrun, hgi]; rfl
  · have hgi : g i = some e0.val := by
      have hy : y = (.held e0.val, []) := by simpa [heldElem] using hRv.symm
      cases hgi : g i with
      | none =>
        have h4 := (h3 i hi .nil).symm.trans (hat .nil)
        rw [hgi, hy] at h4
        cases h4
      | some v =>
        have h4 := (h3 i hi .nil).symm.trans (hat .nil)
        rw [hgi, hy] at h4
        simpa using h4
    rw [hrun, hgi]; rfl
end Go.Proofs.YtkoegbjnhoecoaaGreatDoor
namespace Go.Proofs.YtkoegbjnhoecoaaGreatDoor
open Go.Maps Go.RowKit

namespace Dk
abbrev Wr := Int × ByteArray
def enc (w : Wr) : Value := .agg #[.int .i64 w.1, .string w.2]
def flat (l : List Wr) : List Value := l.flatMap fun w => [.int .i64 w.1, .string w.2]
structure St where
  lim : Option Int
  n : Int
  held : Int → Option Wr
  cnt : Nat
  pend : List Wr
def put (h : Int → Option Wr) (w : Wr) : Int → Option Wr := fun j => if j = w.1 then some w else h j
def puts (h : Int → Option Wr) (l : List Wr) : Int → Option Wr := l.foldl put h
def dead (l : Option Int) : Bool := match l with | some k => decide (k < 1) | none => false
def used (l : Option Int) : Option Int := l.map (· - 1)
def has (s : St) (i : Int) : Bool := decide (0 ≤ i) && decide (i < s.n)
def write (s : St) (i : Int) (t : ByteArray) : Int × St :=
  if has s i = false then (1, s) else if 64 < t.size then (3, s) else if dead s.lim = true then (8, s) else (0, { s with lim := used s.lim, pend := s.pend ++ [(i, t)] })
def sync (s : St) : Int × St :=
  if dead s.lim = true then (8, s) else (0, { s with lim := used s.lim, held := puts s.held s.pend, cnt := s.cnt + s.pend.length, pend := [] })
def kept : List Wr → List Bool → List Wr
  | w :: l, k :: ks => if k then w :: kept l ks else kept l ks
  | _, _ => []
def crash (s : St) (keep : List Bool) : St := { s with lim := none, held := puts s.held (kept s.pend keep), cnt := s.cnt + s.pend.length, pend := [] }
def at_ (s : St) (i : Int) : ByteArray := match puts s.held s.pend i with | some w => w.2 | none => ⟨#[]⟩
def read (s : St) (i : Int) : ByteArray × Int := if has s i = false then (⟨#[]⟩, 1) else (at_ s i, 0)

theorem flat_length (l : List Wr) : (flat l).length = l.length * 2 := by
  induction l with
  | nil => rfl
  | cons a l ih => simp [flat] at ih ⊢; omega
theorem flat_append (l m : List Wr) : flat (l ++ m) = flat l ++ flat m := by simp [flat]
theorem flat_at (l : List Wr) (k : Nat) (h : k < l.length) : (flat l)[2 * k]? = some (.int .i64 l[k].1) ∧ (flat l)[2 * k + 1]? = some (.string l[k].2) := by
  induction l generalizing k with
  | nil => simp at h
  | cons a l ih =>
    cases k with
    | zero => simp [flat]
    | succ k =>
      have := ih k (by simpa using h)
      have e : flat (a :: l) = .int .i64 a.1 :: .string a.2 :: flat l := rfl
      rw [e, show 2 * (k + 1) = 2 * k + 1 + 1 by omega]
      simpa using this

/-- The block of a disk's own cells. -/
def blk (is : Bool) (l n : Int) (bm : Nat) (pv : Value) : Obj := .cells #[.bool is, .int .i64 l, .int .i64 n, .map (some bm), pv] 78 (0, 0)

/-- Block bd is a disk in the state s; its blocks are F. -/
def Of (w : World) (bd : Nat) (s : St) (F : List Nat) : Prop :=
  ∃ l bm pv, w.heap[bd]? = some (blk s.lim.isSome l s.n bm pv) ∧ (∀ k, s.lim = some k → l = k) ∧ ((Lit.int .i64 l).wf = true ∧ ∀ u ∈ s.pend, (Lit.int .i64 u.1).wf = true) ∧ bd ≠ bm ∧ pv.ownBlock ≠ some bd ∧ pv.ownBlock ≠ some bm ∧
    MapOf w 3 bm s.cnt (fun i => (s.held i).map enc) ∧ w.ownsRow 0 80 2 pv s.pend.length (flat s.pend) ∧ F = bd :: bm :: pv.ownBlock.toList

theorem cells_setCell {w : World} {b j : Nat} {c : Array Value} {t : TypeId} (h : w.heap[b]? = some (.cells c t (0, 0))) (v : Value) : (w.setCell ⟨b, j, none⟩ v).heap[b]? = some (.cells (c.setIfInBounds j v) t (0, 0)) := by
  have hlt := lt_of_block h
  have h' : w.heap[b] = .cells c t (0, 0) := by simpa [Array.getElem?_eq_getElem hlt] using h
  show (w.heap.modify b _)[b]? = _
  rw [Array.getElem?_eq_getElem (by simpa using hlt), Array.getElem_modify_self, h']
  rfl
theorem cell_of {w : World} {b j : Nat} {c : Array Value} {t : TypeId} (h : w.heap[b]? = some (.cells c t (0, 0))) : w.cell? ⟨b, j, none⟩ = c[j]? := by simp [World.cell?, h]
theorem free_of {w : World} {b j : Nat} {c : Array Value} {t : TypeId} (h : w.heap[b]? = some (.cells c t (0, 0))) : w.frozen? ⟨b, j, none⟩ = false := by simp [World.frozen?, h]
end Dk

set_option maxHeartbeats 400000 in
theorem has_any (bd : Nat) (is : Bool) (l n i : Int) (bm : Nat) (pv : Value) (w : World) (h : w.heap[bd]? = some (Dk.blk is l n bm pv)) :
    Calls Tryz.prog 47 #[.pointer (some ⟨bd, 0, none⟩), .int .i64 i] w fun e w' => e = .returned (.bool (decide (0 ≤ i) && decide (i < n))) ∧ w = w' := by
  have h2 : w.cell? ⟨bd, 2, none⟩ = some (.int .i64 n) := by rw [Dk.cell_of h]; rfl
  clear h
  go_enter Tryz.func47, Tryz.ntmps47
  go_wp2
  all_goals go_ret
  all_goals exact ⟨ret_bool (by simp; omega), rfl⟩

set_option maxHeartbeats 400000 in
theorem use_any (bd : Nat) (is : Bool) (l n : Int) (bm : Nat) (pv : Value) (w : World) (h : w.heap[bd]? = some (Dk.blk is l n bm pv)) :
    Calls Tryz.prog 48 #[.pointer (some ⟨bd, 0, none⟩)] w fun e w' => e = .returned (.bool (!(is && decide (l < 1)))) ∧ w' = (if is && decide (l < 1) then w else w.setCell ⟨bd, 1, none⟩ (.int .i64 (wrap64 (l - 1)))) := by
  have h0 : w.cell? ⟨bd, 0, none⟩ = some (.bool is) := by rw [Dk.cell_of h]; rfl
  have h1 : w.cell? ⟨bd, 1, none⟩ = some (.int .i64 l) := by rw [Dk.cell_of h]; rfl
  have hf : w.frozen? ⟨bd, 1, none⟩ = false := Dk.free_of h
  clear h
  cases is
  · refine Calls.mono (R := fun e w' => e = .returned (.bool true) ∧ w' = w.setCell ⟨bd, 1, none⟩ (.int .i64 (wrap64 (l - 1)))) ?_ (fun _ _ ⟨h1, h2⟩ => ⟨by simp [h1], by simp [h2]⟩)
    go_enter Tryz.func48, Tryz.ntmps48
    go_wp2
    go_ret
    exact ⟨rfl, rfl⟩
  · by_cases hl : l < 1
    · refine Calls.mono (R := fun e w' => e = .returned (.bool false) ∧ w' = w) ?_ (fun _ _ ⟨h1, h2⟩ => ⟨by simp [h1, hl], by simp [h2, hl]⟩)
      go_enter Tryz.func48, Tryz.ntmps48
      go_wp2
      go_ret
      exact ⟨rfl, rfl⟩
    · refine Calls.mono (R := fun e w' => e = .returned (.bool true) ∧ w' = w.setCell ⟨bd, 1, none⟩ (.int .i64 (wrap64 (l - 1)))) ?_ (fun _ _ ⟨h1, h2⟩ => ⟨by simp [h1, hl], by simp [h2, hl]⟩)
      go_enter Tryz.func48, Tryz.ntmps48
      go_wp2
      go_ret
      exact ⟨rfl, rfl⟩

theorem has_at (b : Bool) (bd : Nat) (is : Bool) (l n i : Int) (bm : Nat) (pv : Value) (w : World) (h : w.heap[bd]? = some (Dk.blk is l n bm pv)) (hb : (decide (0 ≤ i) && decide (i < n)) = b) :
    Calls Tryz.prog 47 #[.pointer (some ⟨bd, 0, none⟩), .int .i64 i] w fun e w' => e = .returned (.bool b) ∧ w = w' := hb ▸ has_any bd is l n i bm pv w h
theorem use_dead (bd : Nat) (is : Bool) (l n : Int) (bm : Nat) (pv : Value) (w : World) (h : w.heap[bd]? = some (Dk.blk is l n bm pv)) (hd : (is && decide (l < 1)) = true) :
    Calls Tryz.prog 48 #[.pointer (some ⟨bd, 0, none⟩)] w fun e w' => e = .returned (.bool false) ∧ w = w' :=
  (use_any bd is l n bm pv w h).mono fun _ _ ⟨h1, h2⟩ => ⟨by rw [h1, hd]; rfl, by rw [h2, hd]; rfl⟩
theorem use_live (bd : Nat) (is : Bool) (l n : Int) (bm : Nat) (pv : Value) (w : World) (h : w.heap[bd]? = some (Dk.blk is l n bm pv)) (hd : (is && decide (l < 1)) = false) :
    Calls Tryz.prog 48 #[.pointer (some ⟨bd, 0, none⟩)] w fun e w' => e = .returned (.bool true) ∧ w' = w.setCell ⟨bd, 1, none⟩ (.int .i64 (wrap64 (l - 1))) :=
  (use_any bd is l n bm pv w h).mono fun _ _ ⟨h1, h2⟩ => ⟨by rw [h1, hd]; rfl, by rw [h2, hd]; rfl⟩
theorem Dk.dead_eq (lim : Option Int) (l : Int) (h : ∀ k, lim = some k → l = k) : (lim.isSome && decide (l < 1)) = Dk.dead lim := by
  cases lim with
  | none => rfl
  | some k => rw [h k rfl]; rfl
theorem Dk.used_eq (lim : Option Int) (l : Int) (h : ∀ k, lim = some k → l = k) (hl : (Lit.int .i64 l).wf = true) (hd : Dk.dead lim = false) : ∀ k, Dk.used lim = some k → wrap64 (l - 1) = k := by
  intro k hk
  cases lim with
  | none => cases hk
  | some j =>
    obtain rfl := h j rfl
    simp [Dk.used] at hk
    simp [Dk.dead] at hd
    have := bounds_i64 hl
    unfold wrap64
    omega
end Go.Proofs.YtkoegbjnhoecoaaGreatDoor
namespace Go.Proofs.YtkoegbjnhoecoaaGreatDoor
open Go.Lib
namespace Wr

abbrev less (a b : Bs) : Bool := Op.bytesLess a b
theorem less_nil (a : Bs) : less a [] = false := by cases a <;> rfl
theorem less_cons (a b : UInt8) (x y : Bs) : less (a :: x) (b :: y) = (decide (a < b) || (a == b && less x y)) := rfl
theorem less_self (a : Bs) : less a a = false := by
  induction a with
  | nil => rfl
  | cons c a ih => rw [less_cons, ih]; simp
theorem less_trans : ∀ a b c : Bs, less a b = true → less b c = true → less a c = true := by
  intro a
  induction a with
  | nil =>
    intro b c h1 h2
    cases c with
    | nil => rw [less_nil] at h2; exact h2
    | cons c z => rfl
  | cons a x ih =>
    intro b c h1 h2
    cases b with
    | nil => rw [less_nil] at h1; cases h1
    | cons b y =>
      cases c with
      | nil => rw [less_nil] at h2; cases h2
      | cons c z =>
        rw [less_cons] at h1 h2 ⊢
        simp only [Bool.or_eq_true, decide_eq_true_eq, Bool.and_eq_true, beq_iff_eq] at h1 h2 ⊢
        rcases h1 with h1 | ⟨rfl, h1⟩
        · rcases h2 with h2 | ⟨rfl, h2⟩
          · left
            rw [UInt8.lt_iff_toNat_lt] at h1 h2 ⊢
            omega
          · left; exact h1
        · rcases h2 with h2 | ⟨rfl, h2⟩
          · left; exact h2
          · right; exact ⟨rfl, ih y z h1 h2⟩
theorem less_all : ∀ a b : Bs, less a b = false → less b a = false → a = b := by
  intro a
  induction a with
  | nil =>
    intro b h1 h2
    cases b with
    | nil => rfl
    | cons b y => cases h1
  | cons a x ih =>
    intro b h1 h2
    cases b with
    | nil => cases h2
    | cons b y =>
      rw [less_cons] at h1 h2
      simp only [Bool.or_eq_false_iff, decide_eq_false_iff_not, Bool.and_eq_false_iff, beq_eq_false_iff_ne] at h1 h2
      have hab : a = b := by
        apply UInt8.toNat_inj.mp
        have h3 := h1.1
        have h4 := h2.1
        rw [UInt8.lt_iff_toNat_lt] at h3 h4
        omega
      subst hab
      rw [ih y (by rcases h1.2 with h | h; · exact absurd rfl h
                   · exact h) (by rcases h2.2 with h | h; · exact absurd rfl h
                                  · exact h)]

def sign (c : UInt8) : Bool := decide (97 ≤ c.toNat ∧ c.toNat ≤ 122) || decide (48 ≤ c.toNat ∧ c.toNat ≤ 57) || decide (c.toNat = 45) || decide (c.toNat = 46)
def nameOk (s : Bs) : Bool := s.all sign && decide (1 ≤ s.length ∧ s.length ≤ 24)
abbrev F := Bs × Bs
def fileOk (f : F) : Bool := nameOk f.1 && decide (f.2.length ≤ 4000)
def befOk (l : List F) (i : Nat) (n : Bs) : Bool := match i with
  | 0 => true
  | k + 1 => match l[k]? with
    | none => true
    | some g => less g.1 n
def stepOk (l : List F) (i : Nat) : Bool := match l[i]? with
  | none => true
  | some f => fileOk f && befOk l i f.1
def right (l : List F) : Bool := (List.range l.length).all (stepOk l) && decide (l.length ≤ 32)
structure Right (l : List F) : Prop where
  ok : ∀ f ∈ l, fileOk f = true
  up : l.Pairwise (fun f g => less f.1 g.1 = true)
  most : l.length ≤ 32
theorem right_no (l : List F) (k : Nat) (h : k < l.length) (hs : stepOk l k = false) : right l = false := by
  unfold right
  rw [Bool.and_eq_false_iff]
  left
  rw [List.all_eq_false]
  exact ⟨k, List.mem_range.mpr h, by rw [hs]; simp⟩
theorem right_end (l : List F) (h : ∀ j < l.length, stepOk l j = true) : right l = decide (l.length ≤ 32) := by
  unfold right
  rw [show (List.range l.length).all (stepOk l) = true from List.all_eq_true.mpr fun j hj => h j (List.mem_range.mp hj)]
  rfl
theorem stepOk_at (l : List F) (k : Nat) (h : k < l.length) : stepOk l k = (fileOk l[k] && befOk l k l[k].1) := by
  unfold stepOk
  rw [List.getElem?_eq_getElem h]
theorem befOk_at (l : List F) (k : Nat) (h : k < l.length) (n : Bs) : befOk l (k + 1) n = less l[k].1 n := by
  unfold befOk
  simp only [List.getElem?_eq_getElem h]
theorem adj_pair : ∀ l : List F, (∀ i, ∀ h : i + 1 < l.length, less l[i].1 l[i + 1].1 = true) → l.Pairwise (fun f g => less f.1 g.1 = true) := by
  intro l
  induction l with
  | nil => intro _; exact List.Pairwise.nil
  | cons a l ih =>
    intro h
    have hp := ih (fun i hi => h (i + 1) (by simp; omega))
    refine List.Pairwise.cons ?_ hp
    cases l with
    | nil => intro b hb; cases hb
    | cons c l =>
      have hac := h 0 (by simp)
      intro b hb
      simp only [List.mem_cons] at hb
      rcases hb with rfl | hb
      · exact hac
      · exact less_trans _ _ _ hac (List.rel_of_pairwise_cons hp hb)
theorem right_of {l : List F} (h : right l = true) : Right l := by
  unfold right at h
  rw [Bool.and_eq_true, List.all_eq_true, decide_eq_true_eq] at h
  have hs : ∀ j, ∀ hj : j < l.length, stepOk l j = true := fun j hj => h.1 j (List.mem_range.mpr hj)
  refine ⟨?_, adj_pair l ?_, h.2⟩
  · intro f hf
    obtain ⟨i, hi, rfl⟩ := List.mem_iff_getElem.mp hf
    have := hs i hi
    rw [stepOk_at l i hi, Bool.and_eq_true] at this
    exact this.1
  · intro i hi
    have := hs (i + 1) hi
    rw [stepOk_at l (i + 1) hi, Bool.and_eq_true] at this
    have h2 := this.2
    rw [befOk_at l i (by omega)] at h2
    exact h2
theorem Right.right {l : List F} (h : Right l) : Wr.right l = true := by
  rw [right_end l, decide_eq_true_eq]
  · exact h.most
  · intro j hj
    rw [stepOk_at l j hj, Bool.and_eq_true]
    refine ⟨h.ok _ (List.getElem_mem hj), ?_⟩
    cases j with
    | zero => rfl
    | succ k =>
      rw [befOk_at l k (by omega)]
      exact List.pairwise_iff_getElem.mp h.up k (k + 1) (by omega) hj (by omega)

def files (l : List F) : Bs := (l.map fun f => put f.1 ++ put f.2).flatten
def flat : List F → List Bs
  | [] => []
  | f :: l => f.1 :: f.2 :: flat l
def pairs : List Bs → List F
  | x :: y :: r => (x, y) :: pairs r
  | _ => []
theorem files_snoc (l : List F) (f : F) : files (l ++ [f]) = files l ++ (put f.1 ++ put f.2) := by simp [files]
theorem files_flat (l : List F) : files l = puts (flat l) := by
  induction l with
  | nil => rfl
  | cons f l ih =>
    have e1 : files (f :: l) = (put f.1 ++ put f.2) ++ files l := by simp [files]
    have e2 : puts (flat (f :: l)) = put f.1 ++ (put f.2 ++ puts (flat l)) := by simp [puts, flat]
    rw [e1, e2, ih, List.append_assoc]
theorem pairs_flat (l : List F) : pairs (flat l) = l := by
  induction l with
  | nil => rfl
  | cons f l ih => show (f.1, f.2) :: pairs (flat l) = _; rw [ih]
theorem flat_length (l : List F) : (flat l).length = 2 * l.length := by
  induction l with
  | nil => rfl
  | cons f l ih => simp [flat, ih]; omega
theorem flat_pairs : ∀ (n : Nat) (l : List Bs), l.length = 2 * n → flat (pairs l) = l ∧ (pairs l).length = n := by
  intro n
  induction n with
  | zero =>
    intro l h
    obtain rfl : l = [] := List.eq_nil_of_length_eq_zero (by omega)
    exact ⟨rfl, rfl⟩
  | succ n ih =>
    intro l h
    match l, h with
    | x :: y :: r, h =>
      obtain ⟨h1, h2⟩ := ih r (by simp at h; omega)
      exact ⟨by show x :: y :: flat (pairs r) = _; rw [h1], by show (pairs r).length + 1 = _; rw [h2]⟩
    | [x], h => simp at h; omega
    | [], h => simp at h
theorem flat_mem (l : List F) (x : Bs) (h : x ∈ flat l) : ∃ f ∈ l, x = f.1 ∨ x = f.2 := by
  induction l with
  | nil => cases h
  | cons f l ih =>
    simp only [flat, List.mem_cons] at h
    rcases h with rfl | rfl | h
    · exact ⟨f, by simp, .inl rfl⟩
    · exact ⟨f, by simp, .inr rfl⟩
    · obtain ⟨g, hg, h⟩ := ih h
      exact ⟨g, by simp [hg], h⟩
def parse (s : Bs) : Except Nat (List F) := match all s with
  | .error e => .error e
  | .ok l => if l.length % 2 = 1 then .error 5 else if right (pairs l) = true then .ok (pairs l) else .error 5
theorem nameOk_len {s : Bs} (h : nameOk s = true) : s.length ≤ 24 := by
  unfold nameOk at h
  rw [Bool.and_eq_true, decide_eq_true_eq] at h
  exact h.2.2
theorem fileOk_len {f : F} (h : fileOk f = true) : f.1.length ≤ 24 ∧ f.2.length ≤ 4000 := by
  unfold fileOk at h
  rw [Bool.and_eq_true, decide_eq_true_eq] at h
  exact ⟨nameOk_len h.1, h.2⟩
theorem parse_files (m : List F) (h : right m = true) : parse (files m) = .ok m := by
  have hr := right_of h
  unfold parse
  rw [files_flat, all_puts]
  · simp only
    rw [if_neg (by rw [flat_length]; omega), pairs_flat, if_pos h]
  · intro x hx
    obtain ⟨f, hf, hx⟩ := flat_mem m x hx
    have := fileOk_len (hr.ok f hf)
    rcases hx with rfl | rfl <;> omega
theorem files_parse (s : Bs) (m : List F) (h : parse s = .ok m) : files m = s ∧ right m = true := by
  unfold parse at h
  split at h
  · cases h
  · next l hl =>
    split at h
    · cases h
    · split at h
      · next h1 h2 =>
        injection h with h
        subst h
        obtain ⟨h3, _⟩ := all_inv s.length s l (Nat.le_refl _) hl
        refine ⟨?_, h2⟩
        rw [files_flat, (flat_pairs (l.length / 2) l (by omega)).1, ← h3]
      · cases h

def dropF (l : List F) (n : Bs) : List F := l.filter fun f => !(f.1 == n)
def ins (l : List F) (f : F) : List F := l.takeWhile (fun g => less g.1 f.1) ++ f :: l.dropWhile (fun g => less g.1 f.1)
def putF (l : List F) (f : F) : Except Nat (List F) :=
  if nameOk f.1 = false then .error 2
  else if 4000 < f.2.length ∨ (¬ (dropF l f.1).length < l.length ∧ 32 ≤ l.length) then .error 3
  else .ok (ins (dropF l f.1) f)
def mapS (b : Nat) (l : List F) (f : F) : List F := match putF l (f.1, f.2.take b) with
  | .error _ => l
  | .ok m => m
def mapF (l : List F) (n b : Nat) : List F := (l.take n).foldl (mapS b) []
theorem takeWhile_all {α : Type} (p : α → Bool) (l : List α) : ∀ a ∈ l.takeWhile p, p a = true := by
  induction l with
  | nil => intro a h; cases h
  | cons b l ih =>
    intro a h
    rw [List.takeWhile_cons] at h
    split at h
    · next hb =>
      simp only [List.mem_cons] at h
      rcases h with rfl | h
      · exact hb
      · exact ih a h
    · cases h
theorem dropWhile_first {α : Type} (p : α → Bool) (l : List α) (b : α) (r : List α) (h : l.dropWhile p = b :: r) : p b = false := by
  induction l with
  | nil => cases h
  | cons c l ih =>
    rw [List.dropWhile_cons] at h
    split at h
    · exact ih h
    · next hc =>
      injection h with h1 h2
      subst h1
      simpa using hc
theorem ins_right (l : List F) (f : F) (h : Right l) (hf : fileOk f = true) (hd : ∀ g ∈ l, g.1 ≠ f.1) (hl : l.length < 32) : Right (ins l f) := by
  have e := List.takeWhile_append_dropWhile (p := fun g : F => less g.1 f.1) (l := l)
  have hup := h.up
  have hlen : (ins l f).length = l.length + 1 := by
    have := congrArg List.length e
    simp only [List.length_append] at this
    simp only [ins, List.length_append, List.length_cons]
    omega
  rw [← e, List.pairwise_append] at hup
  refine ⟨?_, ?_, by omega⟩
  · intro g hg
    simp only [ins, List.mem_append, List.mem_cons] at hg
    rcases hg with hg | rfl | hg
    · exact h.ok g (by rw [← e]; exact List.mem_append_left _ hg)
    · exact hf
    · exact h.ok g (by rw [← e]; exact List.mem_append_right _ hg)
  · unfold ins
    rw [List.pairwise_append]
    have hb : ∀ g ∈ l.dropWhile (fun g : F => less g.1 f.1), less f.1 g.1 = true := by
      intro g hg
      match hq : l.dropWhile (fun g : F => less g.1 f.1) with
      | [] => rw [hq] at hg; cases hg
      | b :: r =>
        have hb := dropWhile_first _ l b r hq
        have hbm : b ∈ l := by rw [← e]; exact List.mem_append_right _ (by rw [hq]; simp)
        have hfb : less f.1 b.1 = true := by
          cases hc : less f.1 b.1 with
          | true => rfl
          | false => exact absurd (less_all _ _ hb hc) (hd b hbm)
        rw [hq] at hg
        simp only [List.mem_cons] at hg
        rcases hg with rfl | hg
        · exact hfb
        · have hp := hup.2.1
          rw [hq] at hp
          exact less_trans _ _ _ hfb (List.rel_of_pairwise_cons hp hg)
    refine ⟨hup.1, List.Pairwise.cons hb hup.2.1, ?_⟩
    intro a ha b hb2
    have h1 := takeWhile_all _ l a ha
    simp only [List.mem_cons] at hb2
    rcases hb2 with rfl | hb2
    · exact h1
    · exact less_trans _ _ _ h1 (hb b hb2)
theorem drop_right (l : List F) (n : Bs) (h : Right l) : Right (dropF l n) := by
  refine ⟨fun f hf => h.ok f (List.mem_filter.mp hf).1, h.up.filter _, Nat.le_trans (List.length_filter_le _ _) h.most⟩
theorem putF_right (l m : List F) (f : F) (h : Right l) (hp : putF l f = .ok m) : Right m := by
  unfold putF at hp
  split at hp
  · cases hp
  · next h1 =>
    split at hp
    · cases hp
    · next h2 =>
      injection hp with hp
      subst hp
      have hle : (dropF l f.1).length ≤ l.length := List.length_filter_le _ _
      have hm := h.most
      refine ins_right _ f (drop_right l f.1 h) ?_ ?_ (by omega)
      · unfold fileOk
        rw [Bool.and_eq_true, decide_eq_true_eq]
        exact ⟨by simpa using h1, by omega⟩
      · intro g hg
        have := (List.mem_filter.mp hg).2
        simpa using this
theorem mapF_right (l : List F) (n b : Nat) : Right (mapF l n b) := by
  have : ∀ (x m : List F), Right m → Right (x.foldl (mapS b) m) := by
    intro x
    induction x with
    | nil => intro m h; exact h
    | cons f x ih =>
      intro m h
      rw [List.foldl_cons]
      refine ih _ ?_
      unfold mapS
      split
      · exact h
      · next q hq => exact putF_right _ _ _ h hq
  exact this _ _ ⟨by simp, List.Pairwise.nil, by simp⟩
end Wr
end Go.Proofs.YtkoegbjnhoecoaaGreatDoor
namespace Go.Proofs.YtkoegbjnhoecoaaGreatDoor
open Go.RowKit Go.Lib Go.Sort Tx

def fsigns : Bs := [97, 98, 99, 100, 101, 102, 103, 104, 105, 106, 107, 108, 109, 110, 111, 112, 113, 114, 115, 116, 117, 118, 119, 120, 121, 122, 48, 49, 50, 51, 52, 53, 54, 55, 56, 57, 45, 46]
theorem index_sign (c : UInt8) : (decide (Lib.indexByte fsigns c < 0)) = !(Wr.sign c) := by
  have h : (List.range 256).all (fun n => (decide (Lib.indexByte fsigns (UInt8.ofNat n) < 0)) == !(Wr.sign (UInt8.ofNat n))) = true := by decide +kernel
  have := List.all_eq_true.1 h c.toNat (List.mem_range.2 c.toNat_lt)
  rw [beq_iff_eq] at this
  simpa using this
theorem all_take_succ (p : UInt8 → Bool) (s : Bs) (k : Nat) (h : k < s.length) (h1 : (s.take k).all p = true) (h2 : p s[k] = true) : (s.take (k + 1)).all p = true := by
  rw [List.take_succ_eq_append_getElem h, List.all_append, h1]
  simp [h2]
theorem all_no (p : UInt8 → Bool) (s : Bs) (k : Nat) (h : k < s.length) (h2 : p s[k] = false) : s.all p = false := by
  rw [List.all_eq_false]
  exact ⟨s[k], List.getElem_mem h, by simp [h2]⟩
theorem name_no (s : Bs) (k : Nat) (h : k < s.length) (h2 : Wr.sign s[k] = false) : Wr.nameOk s = false := by
  unfold Wr.nameOk
  rw [show (s : List UInt8).all Wr.sign = false from all_no Wr.sign s k h h2]
  rfl
theorem name_end (s : Bs) (h : (s.take s.length).all Wr.sign = true) : Wr.nameOk s = decide (1 ≤ s.length ∧ s.length ≤ 24) := by
  unfold Wr.nameOk
  rw [List.take_length] at h
  rw [show (s : List UInt8).all Wr.sign = true from h]
  rfl

set_option maxHeartbeats 4000000 in
theorem fName_any (s : Bs) (w : World) (hs : s.length ≤ maxLen) :
    Calls Tryz.prog 45 #[vs s] w fun e w' => e = .returned (.bool (Wr.nameOk s)) ∧ w = w' := by
  have hz := bs_size s
  simp only [maxLen] at hs
  go_enter Tryz.func45, Tryz.ntmps45
  go_wp2_with fail
  go_loop [6] (fun i => ∃ k : Nat, k ≤ s.length ∧ i = .int .i64 k ∧ (s.take k).all Wr.sign = true) (fun i => s.length - (RowKit.intOf i).toNat)
  case atStart => exact ⟨0, Nat.zero_le _, rfl, by simp⟩
  case round =>
    obtain ⟨k, hk, rfl, ha⟩ := hrel
    have HA := Lib.hid ha
    clear ha
    by_cases hlt : k < s.length
    · have hi : (k : Int) < ((bs s).size : Int) := by omega
      have hkb : k < (bs s).size := by omega
      have hgb : (bs s)[k]'hkb = s[k] := rfl
      have HS := Lib.hid (all_take_succ Wr.sign s k hlt HA.out)
      have HN := Lib.hid (name_no s k hlt)
      have hix := index_sign s[k]
      generalize s[k] = c at *
      have HX : Hid (Lib.indexByte fsigns ((c.toNat : Int).toNat.toUInt8) = Lib.indexByte fsigns c) := Lib.hid (by simp)
      generalize hr : Lib.indexByte fsigns c = r at *
      by_cases hsg : Wr.sign c = true
      · have hr0 : (0 : Int) ≤ r := by
          rw [hsg] at hix
          simpa using hix
        have HS2 := Lib.hid (HS.out hsg)
        clear hix hsg hr
        go_wp2_with (go_at_call 57; refine (Tryz.strings_IndexByte ⟨fsigns.toArray⟩ (c.toNat : Int) _).mono ?_; rintro e w' ⟨rfl, rfl⟩; rw [HX.out])
        go_round
        case rel => exact ⟨k + 1, by omega, by go_num, HS2.out⟩
        case measure => simp [RowKit.intOf]; omega
      · have hsg : Wr.sign c = false := by simpa using hsg
        have hr0 : r < 0 := by
          rw [hsg] at hix
          simpa using hix
        have HN2 := Lib.hid (HN.out hsg)
        clear hix hsg hr
        go_wp2_with (go_at_call 57; refine (Tryz.strings_IndexByte ⟨fsigns.toArray⟩ (c.toNat : Int) _).mono ?_; rintro e w' ⟨rfl, rfl⟩; rw [HX.out])
        go_ret
        exact ⟨by rw [HN2.out]; rfl, rfl⟩
    · obtain rfl : k = s.length := by omega
      have HE := Lib.hid (name_end s HA.out)
      by_cases h1 : 1 ≤ s.length
      · have h1' : (1 : Int) ≤ ((bs s).size : Int) := by omega
        by_cases h2 : s.length ≤ 24
        · have h2' : ((bs s).size : Int) ≤ 24 := by omega
          have h4' : decide ((s.length : Int) ≤ 24) = true := decide_eq_true (by omega)
          have HF : Hid (Wr.nameOk s = true) := Lib.hid (by rw [HE.out]; exact decide_eq_true ⟨h1, h2⟩)
          go_wp2_with fail
          go_ret
          exact ⟨by rw [HF.out]; rfl, rfl⟩
        · have h2' : (24 : Int) < ((bs s).size : Int) := by omega
          have h3' : decide (((bs s).size : Int) ≤ 24) = false := by simp; omega
          have h4' : decide ((s.length : Int) ≤ 24) = false := by simp; omega
          have HF : Hid (Wr.nameOk s = false) := Lib.hid (by rw [HE.out]; exact decide_eq_false (by omega))
          go_wp2_with fail
          go_ret
          exact ⟨by rw [HF.out]; first | rfl | (simp; omega), rfl⟩
      · have h1' : ((bs s).size : Int) < 1 := by omega
        have h3' : decide ((1 : Int) ≤ ((bs s).size : Int)) = false := by simp; omega
        have h4' : decide ((1 : Int) ≤ (s.length : Int)) = false := by simp; omega
        have HF : Hid (Wr.nameOk s = false) := Lib.hid (by rw [HE.out]; exact decide_eq_false (by omega))
        go_wp2_with fail
        go_ret
        exact ⟨by rw [HF.out]; first | rfl | (simp; omega), rfl⟩

set_option maxHeartbeats 8000000 in
theorem rName_any (s : Bs) (w : World) (hs : s.length ≤ maxLen) :
    Calls Tryz.prog 50 #[vs s] w fun e w' => e = .returned (.bool (Wr.nameOk s)) ∧ w = w' := by
  have hz := bs_size s
  simp only [maxLen] at hs
  go_enter Tryz.func50, Tryz.ntmps50
  go_wp2_with fail
  go_loop [3] (fun i => ∃ k : Nat, k ≤ s.length ∧ i = .int .i64 k ∧ (s.take k).all Wr.sign = true) (fun i => s.length - (RowKit.intOf i).toNat)
  case atStart => exact ⟨0, Nat.zero_le _, rfl, by simp⟩
  case round =>
    obtain ⟨k, hk, rfl, ha⟩ := hrel
    have HA := Lib.hid ha
    clear ha
    by_cases hlt : k < s.length
    · have hi : (k : Int) < ((bs s).size : Int) := by omega
      have hkb : k < (bs s).size := by omega
      have hgb : (bs s)[k]'hkb = s[k] := rfl
      have HS := Lib.hid (all_take_succ Wr.sign s k hlt HA.out)
      have HN := Lib.hid (name_no s k hlt)
      generalize s[k] = c at *
      have hcb : c.toNat < 256 := c.toNat_lt
      have hsg : Wr.sign c = (decide (97 ≤ c.toNat ∧ c.toNat ≤ 122) || decide (48 ≤ c.toNat ∧ c.toNat ≤ 57) || decide (c.toNat = 45) || decide (c.toNat = 46)) := rfl
      obtain ⟨x, hx⟩ : ∃ x, x = c.toNat := ⟨_, rfl⟩
      rw [← hx] at hsg hcb
      have hgx : ((c.toNat : Nat) : Int) = (x : Int) := by rw [hx]
      clear hx
      have hyes : Wr.sign c = true → Hid ((s.take (k + 1)).all Wr.sign = true) := fun h => Lib.hid (HS.out h)
      have hnot : Wr.sign c = false → Hid (Wr.nameOk s = false) := fun h => Lib.hid (HN.out h)
      clear HS HN
      by_cases h1 : 97 ≤ x ∧ x ≤ 122
      · have HS2 := hyes (by rw [hsg]; simp; omega)
        have i1 : (97 : Int) ≤ (x : Int) := by omega
        have i2 : (x : Int) ≤ 122 := by omega
        clear hsg hyes hnot h1
        go_wp2_with fail
        go_round
        case rel => exact ⟨k + 1, by omega, by go_num, HS2.out⟩
        case measure => simp [RowKit.intOf]; omega
      · have hcase : (122 < x) ∨ (x < 97 ∧ 57 < x) ∨ (48 ≤ x ∧ x ≤ 57) ∨ x = 47 ∨ x = 46 ∨ x = 45 ∨ x < 45 := by omega
        rcases hcase with h2 | h2 | h2 | h2 | h2 | h2 | h2
        · have HN2 := hnot (by rw [hsg]; simp; omega)
          have i1 : (97 : Int) ≤ (x : Int) := by omega
          have i2 : decide ((x : Int) ≤ 122) = false := decide_eq_false (by omega)
          have i3 : (48 : Int) ≤ (x : Int) := by omega
          have i4 : decide ((x : Int) ≤ 57) = false := decide_eq_false (by omega)
          have i5 : ((x : Int) == 45) = false := by simp; omega
          have i6 : ((x : Int) == 46) = false := by simp; omega
          clear hsg hyes hnot h1 h2
          go_wp2_with fail
          go_ret
          exact ⟨by rw [HN2.out]; rfl, rfl⟩
        · have HN2 := hnot (by rw [hsg]; simp; omega)
          have i1 : decide ((97 : Int) ≤ (x : Int)) = false := decide_eq_false (by omega)
          have i3 : (48 : Int) ≤ (x : Int) := by omega
          have i4 : decide ((x : Int) ≤ 57) = false := decide_eq_false (by omega)
          have i5 : ((x : Int) == 45) = false := by simp; omega
          have i6 : ((x : Int) == 46) = false := by simp; omega
          clear hsg hyes hnot h1 h2
          go_wp2_with fail
          go_ret
          exact ⟨by rw [HN2.out]; rfl, rfl⟩
        · have HS2 := hyes (by rw [hsg]; simp; omega)
          have i1 : decide ((97 : Int) ≤ (x : Int)) = false := decide_eq_false (by omega)
          have i3 : (48 : Int) ≤ (x : Int) := by omega
          have i4 : (x : Int) ≤ 57 := by omega
          clear hsg hyes hnot h1 h2
          go_wp2_with fail
          go_round
          case rel => exact ⟨k + 1, by omega, by go_num, HS2.out⟩
          case measure => simp [RowKit.intOf]; omega
        · have HN2 := hnot (by rw [hsg]; simp; omega)
          subst h2
          clear hsg hyes hnot h1
          go_wp2_with fail
          go_ret
          exact ⟨by rw [HN2.out]; rfl, rfl⟩
        · have HS2 := hyes (by rw [hsg]; simp; omega)
          subst h2
          clear hsg hyes hnot h1
          go_wp2_with fail
          go_round
          case rel => exact ⟨k + 1, by omega, by go_num, HS2.out⟩
          case measure => simp [RowKit.intOf]; omega
        · have HS2 := hyes (by rw [hsg]; simp; omega)
          subst h2
          clear hsg hyes hnot h1
          go_wp2_with fail
          go_round
          case rel => exact ⟨k + 1, by omega, by go_num, HS2.out⟩
          case measure => simp [RowKit.intOf]; omega
        · have HN2 := hnot (by rw [hsg]; simp; omega)
          have i1 : decide ((97 : Int) ≤ (x : Int)) = false := decide_eq_false (by omega)
          have i3 : decide ((48 : Int) ≤ (x : Int)) = false := decide_eq_false (by omega)
          have i5 : ((x : Int) == 45) = false := by simp; omega
          have i6 : ((x : Int) == 46) = false := by simp; omega
          clear hsg hyes hnot h1 h2
          go_wp2_with fail
          go_ret
          exact ⟨by rw [HN2.out]; rfl, rfl⟩
    · obtain rfl : k = s.length := by omega
      have HE := Lib.hid (name_end s HA.out)
      by_cases h1 : 1 ≤ s.length
      · have h1' : (1 : Int) ≤ ((bs s).size : Int) := by omega
        by_cases h2 : s.length ≤ 24
        · have h2' : ((bs s).size : Int) ≤ 24 := by omega
          have h4' : decide ((s.length : Int) ≤ 24) = true := decide_eq_true (by omega)
          have HF : Hid (Wr.nameOk s = true) := Lib.hid (by rw [HE.out]; exact decide_eq_true ⟨h1, h2⟩)
          go_wp2_with fail
          go_ret
          exact ⟨by rw [HF.out]; rfl, rfl⟩
        · have h2' : (24 : Int) < ((bs s).size : Int) := by omega
          have h3' : decide (((bs s).size : Int) ≤ 24) = false := by simp; omega
          have h4' : decide ((s.length : Int) ≤ 24) = false := by simp; omega
          have HF : Hid (Wr.nameOk s = false) := Lib.hid (by rw [HE.out]; exact decide_eq_false (by omega))
          go_wp2_with fail
          go_ret
          exact ⟨by rw [HF.out]; first | rfl | (simp; omega), rfl⟩
      · have h1' : ((bs s).size : Int) < 1 := by omega
        have h3' : decide ((1 : Int) ≤ ((bs s).size : Int)) = false := by simp; omega
        have h4' : decide ((1 : Int) ≤ (s.length : Int)) = false := by simp; omega
        have HF : Hid (Wr.nameOk s = false) := Lib.hid (by rw [HE.out]; exact decide_eq_false (by omega))
        go_wp2_with fail
        go_ret
        exact ⟨by rw [HF.out]; first | rfl | (simp; omega), rfl⟩
end Go.Proofs.YtkoegbjnhoecoaaGreatDoor
namespace Go.Proofs.YtkoegbjnhoecoaaGreatDoor
open Go.RowKit

theorem own_heap {w w' : World} {base : Nat} {e : TypeId} {size : Nat} {v : Value} {n : Nat} {xs : List Value} (h : w.ownsRow base e size v n xs) (hb : ∀ k, v.ownBlock = some k → w'.heap[k]? = w.heap[k]?) : w'.ownsRow base e size v n xs := by
  refine ⟨h.1, ?_⟩
  rcases h.2 with h2 | ⟨g, cap, cur, rfl, hbg, hg, rest⟩
  · exact .inl h2
  · exact .inr ⟨g, cap, cur, rfl, hbg, (hb g rfl).trans hg, rest⟩

/-- Where what an append hands back lies: in the old block, or in a new one. -/
theorem append_own_blk {P : Program} (w : World) (base : Nat) (t ty e : TypeId) (i : TypeInfo) (z : Value) (size bytes : Nat) (ht : P.underlying t = some (.slice e)) (hi : P.info? e = some i) (hz : i.zero = some z)
    (hsize : i.size = size) (hby : i.bytes = bytes) (hzs : z.cells.size = size) (hsz : 0 < size)
    (v : Value) (n : Nat) (xs : List Value) (hown : w.ownsRow base e size v n xs)
    (a : Addr) (m c : Nat) (news : List Value) (hl : news.length = m * size) (hnews : ∀ j u, news[j]? = some u → w.cell? (a.add j) = some u) (h1 : ∀ u ∈ news, u.oneCell' = true)
    (h63 : n + m ≤ maxLen) (hbytes : (n + m) * bytes ≤ 140737488355328) (v' : Value) (w' : World) (hr' : (Builtin.append_ #[t, t] ty #[v, .slice (some a) m c]).run P w = .ok v' w') :
    ∀ k, v'.ownBlock = some k → v.ownBlock = some k ∨ w.heap.size ≤ k := by
  subst hsize
  subst hby
  have hsmall : n + m ≤ 9223372036854775807 := by simp only [maxLen] at h63; omega
  rcases hown.2 with ⟨rfl, rfl⟩ | ⟨g, cap, cur, rfl, hbg, hg, hnc, hcm, hcs, htake⟩
  · obtain ⟨v2, w2, hr, ho, _⟩ := run_append_own (P := P) w w.heap.size t ty e i z i.size i.bytes ht hi hz rfl rfl hzs hsz (.slice none 0 0) 0 [] (World.ownsRow_nil w w.heap.size e i.size) a m c news hl hnews h1 (by omega) (by simpa using hbytes) (Nat.le_refl _)
    rw [hr] at hr'
    injection hr' with e1 e2
    subst e1
    exact fun k hk => .inr (ho.lt k hk).1
  · by_cases hroom : n + m ≤ cap
    · have hfit : n * i.size + news.length ≤ cur.size := by rw [hl, hcs, ← Nat.add_mul]; exact Nat.mul_le_mul_right _ hroom
      rw [run_append_room (P := P) w t ty e i ht hi g n cap cur hg a m c news hl hnews h1 hroom hfit] at hr'
      injection hr' with e1 e2
      subst e1
      exact fun k hk => .inl hk
    · have holds : ∀ j u, xs[j]? = some u → w.cell? ((⟨g, 0, none⟩ : Addr).add j) = some u := hown.cells (g := g) rfl
      rw [run_append_grow (P := P) w t ty e i z ht hi hz ⟨g, 0, none⟩ n cap xs hown.1 holds a m c news hl hnews (by omega) (by omega) (growslice_fits (by omega) hbytes)] at hr'
      injection hr' with e1 e2
      subst e1
      intro k hk
      injection hk with hk
      exact .inr (by subst hk; exact Nat.le_refl _)

theorem wpList_app1b {P : Program} {w0 : World} {ops : Array Oper} {rest : List Oper} {o : Oper} {a : Act} {Q : Exit → Act → World → Prop} (hgd : o.guard = none) (s x : Operand) (t : TypeId)
    (ho : o.op = .call { callee := .builtin .append, args := #[s, x], argTypes := #[t, t] })
    (base : Nat) (e : TypeId) (i : TypeInfo) (z : Value) (bytes : Nat) (ht : P.underlying t = some (.slice e)) (hi : P.info? e = some i) (hz : i.zero = some z)
    (hsize : i.size = 1) (hby : i.bytes = bytes) (hzs : z.cells.size = 1)
    (v : Value) (n : Nat) (xs : List Value) (u : Value) (hu : u.oneCell' = true) (hs : a.eval s = v) (g : Nat) (hge : g = w0.heap.size) (hx : a.eval x = .slice (some ⟨g, 0, none⟩) 1 1)
    (hown : w0.ownsRow base e 1 v n xs) (hb : base ≤ w0.heap.size)
    (h63 : n + 1 ≤ maxLen) (hbytes : (n + 1) * bytes ≤ 140737488355328)
    (h : ∀ v' w', w'.ownsRow base e 1 v' (n + 1) (xs ++ [u]) → w0.grownBy w' v.ownBlock → (∀ k, v'.ownBlock = some k → v.ownBlock = some k ∨ w0.heap.size ≤ k) → wpList P ops Q rest (a.put o.dst v') w') :
    wpList P ops Q (o :: rest) a (w0.alloc (.cells #[u] e)) := by
  subst hge
  have hnews : ∀ j y, [u][j]? = some y → (w0.alloc (.cells #[u] e)).cell? ((⟨w0.heap.size, 0, none⟩ : Addr).add j) = some y := by
    intro j y hj
    rw [Addr.add_lit]
    simp only [Nat.zero_add]
    rw [cell_of_row _ w0.heap.size j _ e (0, 0) (heap_alloc_new w0 _)]
    simpa using hj
  have hone : ∀ y ∈ [u], y.oneCell' = true := by
    intro y hy
    simp at hy
    subst hy
    exact hu
  obtain ⟨v', w', hr, h2, h3, _⟩ := run_append_own (P := P) (w0.alloc (.cells #[u] e)) base t o.type e i z 1 bytes ht hi hz hsize hby hzs (by decide) v n xs (hown.alloc _) ⟨w0.heap.size, 0, none⟩ 1 1 [u] rfl hnews hone h63 hbytes (by simp; omega)
  have h4 := append_own_blk (P := P) (w0.alloc (.cells #[u] e)) base t o.type e i z 1 bytes ht hi hz hsize hby hzs (by decide) v n xs (hown.alloc _) ⟨w0.heap.size, 0, none⟩ 1 1 [u] rfl hnews hone h63 hbytes v' w' hr
  have hg : w0.grownBy w' v.ownBlock := ⟨h3.os, h3.tape, h3.output, Nat.le_trans (by simp) h3.size, fun k hk hne => (h3.block k (by simp; omega) hne).trans (Below.heap_alloc _ _ _ hk)⟩
  refine wpList_plain hgd fun _ hK => ?_
  unfold Oper.wp execOp
  simp only [ho, resolve, invoke, builtin, Sem.run_bind, Sem.run_pure, Result.andThen_ok, List.map_toArray, List.map_cons, List.map_nil, hs, hx, hr]
  exact hK _ _ (h v' w' h2 hg (fun k hk => by rcases h4 k hk with h5 | h5; exact .inl h5; exact .inr (by simp at h5; omega)))

end Go.Proofs.YtkoegbjnhoecoaaGreatDoor
namespace Go.Proofs.YtkoegbjnhoecoaaGreatDoor
open Go.RowKit

section
variable {α : Type} {f : α → List Value} {n : Nat}
theorem flat_length (hf : ∀ x, (f x).length = n) (l : List α) : (l.flatMap f).length = l.length * n := by
  induction l with
  | nil => simp
  | cons a l ih => simp only [List.flatMap_cons, List.length_append, hf, ih, List.length_cons, Nat.add_mul, Nat.one_mul]; omega
theorem flat_at (hf : ∀ x, (f x).length = n) (l : List α) (j i : Nat) (hj : j < l.length) (hi : i < n) : (l.flatMap f)[j * n + i]? = (f l[j])[i]? := by
  induction l generalizing j with
  | nil => simp at hj
  | cons a l ih =>
    rw [List.flatMap_cons]
    cases j with
    | zero => rw [Nat.zero_mul, Nat.zero_add, List.getElem?_append_left (by rw [hf]; exact hi)]; rfl
    | succ j =>
      rw [List.getElem?_append_right (by rw [hf, Nat.add_mul]; omega), hf, show (j + 1) * n + i - n = j * n + i by rw [Nat.add_mul]; omega, ih j (by simpa using hj)]
      rfl
end

/-- The slice value v, behind block base, owns the row l: an element in n cells, written by f. -/
def OwnC {α : Type} (e : TypeId) (n : Nat) (f : α → List Value) (base : Nat) (w : World) (v : Value) (l : List α) : Prop := w.ownsRow base e n v l.length (l.flatMap f)

section
variable {α : Type} {f : α → List Value} {n base : Nat} {e : TypeId} {w w' : World} {v : Value} {l : List α}
theorem OwnC.nil (e : TypeId) (n : Nat) (f : α → List Value) (base : Nat) (w : World) : OwnC e n f base w (.slice none 0 0) [] := World.ownsRow_nil w base _ _
theorem OwnC.made (e : TypeId) (n : Nat) (f : α → List Value) (base : Nat) (w : World) (h : base ≤ w.heap.size) : OwnC e n f base (w.alloc (.cells #[] e)) (.slice (some ⟨w.heap.size, 0, none⟩) 0 0) [] :=
  World.ownsRow_made w #[] 0 h (by decide) (e := e) (size := n) (by simp)
theorem OwnC.below (h : OwnC e n f base w v l) (hb : Below w.heap.size w w') : OwnC e n f base w' v l := own_below h hb
theorem OwnC.heap (h : OwnC e n f base w v l) (hb : ∀ k, v.ownBlock = some k → w'.heap[k]? = w.heap[k]?) : OwnC e n f base w' v l := own_heap h hb
theorem OwnC.drewN (h : OwnC e n f base w v l) (k : Nat) : OwnC e n f base (w.drewN k) v l := h
theorem OwnC.lt (h : OwnC e n f base w v l) : ∀ k, v.ownBlock = some k → base ≤ k ∧ k < w.heap.size := World.ownsRow.lt h
theorem OwnC.mono {b : Nat} (h : OwnC e n f base w v l) (hb : b ≤ base) : OwnC e n f b w v l := ⟨h.1, h.2.imp id fun ⟨g, cap, cur, h1, h2, h3⟩ => ⟨g, cap, cur, h1, Nat.le_trans hb h2, h3⟩⟩
theorem OwnC.shape (hf : ∀ x, (f x).length = n) (h : OwnC e n f base w v l) (hne : l ≠ []) :
    ∃ g cap, v = .slice (some ⟨g, 0, none⟩) l.length cap ∧ base ≤ g ∧ g < w.heap.size ∧ l.length ≤ cap ∧ cap ≤ maxLen ∧
      ∀ j (h : j < l.length) i u, (f l[j])[i]? = some u → w.cell? ⟨g, j * n + i, none⟩ = some u ∧ w.frozen? ⟨g, j * n + i, none⟩ = false := by
  rcases h.2 with ⟨_, hn⟩ | ⟨g, cap, cur, rfl, hb, hg, hnc, hcm, hcs, htake⟩
  · exact absurd (List.eq_nil_of_length_eq_zero hn) hne
  · refine ⟨g, cap, rfl, hb, (Array.getElem?_eq_some_iff.1 hg).1, hnc, hcm, fun j hj i u hu => ⟨?_, by simp [World.frozen?, hg]⟩⟩
    have hi : i < n := by
      have := (List.getElem?_eq_some_iff.1 hu).1
      rw [hf] at this; exact this
    have h' : w.ownsRow base e n (.slice (some ⟨g, 0, none⟩) l.length cap) l.length (l.flatMap f) := h
    have hlt : j * n + i < l.length * n := by
      have : (j + 1) * n ≤ l.length * n := Nat.mul_le_mul_right _ hj
      rw [Nat.add_mul] at this; omega
    rw [h'.cellAt _ hlt, flat_at hf l j i hj hi, hu]
theorem OwnC.rowC (hf : ∀ x, (f x).length = n) (h : OwnC e n f base w v l) : RowC n f w w.heap.size v l := by
  by_cases hne : l = []
  · subst hne
    rcases h.2 with ⟨rfl, _⟩ | ⟨g, cap, cur, rfl, hb, hg, hnc, hcm, hcs, htake⟩
    · exact ⟨0, by simp, by decide, .inl ⟨rfl, none, rfl⟩⟩
    · exact ⟨cap, by simp, hcm, .inl ⟨rfl, _, rfl⟩⟩
  · obtain ⟨g, cap, rfl, h1, h2, h3, h4, h5⟩ := h.shape hf hne
    exact ⟨cap, h3, h4, .inr ⟨g, 0, rfl, h2, fun j hj i u hu => by rw [Nat.zero_add]; exact (h5 j hj i u hu).1⟩⟩
end

theorem RowC.more {α : Type} {n : Nat} {f : α → List Value} {w : World} {B B' : Nat} {v : Value} {xs : List α} (h : RowC n f w B v xs) (hB : B ≤ B') : RowC n f w B' v xs := by
  obtain ⟨cap, h1, h2, h3⟩ := h
  refine ⟨cap, h1, h2, ?_⟩
  rcases h3 with h3 | ⟨b, off, hv, hlt, hc⟩
  · exact .inl h3
  · exact .inr ⟨b, off, hv, Nat.lt_of_lt_of_le hlt hB, hc⟩
theorem RowC.bounds {α : Type} {n : Nat} {f : α → List Value} {w : World} {B : Nat} {A : Option Addr} {m c : Nat} {xs : List α} (h : RowC n f w B (.slice A m c) xs) : xs.length = m ∧ m ≤ c ∧ c ≤ 9223372036854775807 ∧
    (∀ k (hk : k < xs.length), ∃ b off, A = some ⟨b, off, none⟩ ∧ b < B ∧ ∀ i u, (f xs[k])[i]? = some u → w.cell? ⟨b, off + k * n + i, none⟩ = some u) := by
  obtain ⟨A', c', e, h1, h2, h3⟩ := h.shape
  injection e with e1 e2 e3
  subst e1 e2 e3
  refine ⟨rfl, h1, h2, fun k hk => ?_⟩
  obtain ⟨b, off, h4, h5, h6⟩ := h3 (by rintro rfl; simp at hk)
  exact ⟨b, off, h4, h5, h6 k hk⟩
theorem RowC.step {α : Type} {n : Nat} {f : α → List Value} {w w' : World} {v : Value} {xs : List α} (h : RowC n f w w.heap.size v xs) (hb : Below w.heap.size w w') : RowC n f w' w'.heap.size v xs :=
  (h.below hb (Nat.le_refl _)).more hb.size
/-- A piece 'v[:k]' of a row of elements of n cells. -/
theorem RowC.cutTo {α : Type} {n k : Nat} {f : α → List Value} {w : World} {B : Nat} {A : Option Addr} {m c : Nat} {xs : List α} (h : RowC n f w B (.slice A m c) xs) (hk : k ≤ xs.length) : RowC n f w B (.slice A k c) (xs.take k) := by
  obtain ⟨cap, h1, h2, h3⟩ := h
  rcases h3 with ⟨rfl, A', e⟩ | ⟨b, off, e, hlt, hc⟩
  · injection e with e1 e2 e3
    subst e3
    have : k = 0 := by simpa using hk
    subst this
    exact ⟨c, by simp, h2, .inl ⟨by simp, A, rfl⟩⟩
  · injection e with e1 e2 e3
    subst e1 e2 e3
    have hl : (xs.take k).length = k := by simp; omega
    refine ⟨c, by rw [hl]; omega, h2, .inr ⟨b, off, by rw [hl], hlt, fun j hj i u hu => ?_⟩⟩
    rw [List.getElem_take] at hu
    exact hc j (by rw [hl] at hj; omega) i u hu
/-- A row that was laid just now, all its cells written out. -/
theorem rowC_lit {α : Type} {n : Nat} {f : α → List Value} (hf : ∀ x, (f x).length = n) (e : TypeId) (l : List α) (w : World) (hm : l.length ≤ maxLen) :
    OwnC e n f w.heap.size (w.alloc (.cells (l.flatMap f).toArray e)) (.slice (some ⟨w.heap.size, 0, none⟩) l.length l.length) l := by
  have := World.ownsRow_lit (base := w.heap.size) (e := e) (size := n) w (l.flatMap f).toArray l.length (Nat.le_refl _) hm (by simpa using flat_length hf l)
  simpa [OwnC] using this

/-- 'out = append(out, x)', out nil or the call's own, x in a block of its own that was laid just now. -/
theorem wpList_appN {P : Program} {w0 : World} {ops : Array Oper} {rest : List Oper} {o : Oper} {a : Act} {Q : Exit → Act → World → Prop} (hgd : o.guard = none) (s x : Operand) (t : TypeId)
    (ho : o.op = .call { callee := .builtin .append, args := #[s, x], argTypes := #[t, t] })
    (base : Nat) (e : TypeId) (i : TypeInfo) (z : Value) (size bytes : Nat) (ht : P.underlying t = some (.slice e)) (hi : P.info? e = some i) (hz : i.zero = some z)
    (hsize : i.size = size) (hby : i.bytes = bytes) (hzs : z.cells.size = size) (hsz : 0 < size)
    (v : Value) (n : Nat) (xs : List Value) (us : List Value) (hus : us.length = size) (hone : ∀ y ∈ us, y.oneCell' = true) (hs : a.eval s = v) (g : Nat) (hge : g = w0.heap.size) (hx : a.eval x = .slice (some ⟨g, 0, none⟩) 1 1)
    (hown : w0.ownsRow base e size v n xs) (hb : base ≤ w0.heap.size)
    (h63 : n + 1 ≤ maxLen) (hbytes : (n + 1) * bytes ≤ 140737488355328)
    (h : ∀ v' w', w'.ownsRow base e size v' (n + 1) (xs ++ us) → w0.grownBy w' v.ownBlock → (∀ k, v'.ownBlock = some k → v.ownBlock = some k ∨ w0.heap.size ≤ k) → wpList P ops Q rest (a.put o.dst v') w') :
    wpList P ops Q (o :: rest) a (w0.alloc (.cells us.toArray e)) := by
  subst hge
  have hnews : ∀ j y, us[j]? = some y → (w0.alloc (.cells us.toArray e)).cell? ((⟨w0.heap.size, 0, none⟩ : Addr).add j) = some y := by
    intro j y hj
    rw [Addr.add_lit]
    simp only [Nat.zero_add]
    rw [cell_of_row _ w0.heap.size j _ e (0, 0) (heap_alloc_new w0 _)]
    simpa using hj
  obtain ⟨v', w', hr, h2, h3, _⟩ := run_append_own (P := P) (w0.alloc (.cells us.toArray e)) base t o.type e i z size bytes ht hi hz hsize hby hzs hsz v n xs (hown.alloc _) ⟨w0.heap.size, 0, none⟩ 1 1 us (by omega) hnews hone h63 hbytes (by simp; omega)
  have h4 := append_own_blk (P := P) (w0.alloc (.cells us.toArray e)) base t o.type e i z size bytes ht hi hz hsize hby hzs hsz v n xs (hown.alloc _) ⟨w0.heap.size, 0, none⟩ 1 1 us (by omega) hnews hone h63 hbytes v' w' hr
  have hg : w0.grownBy w' v.ownBlock := ⟨h3.os, h3.tape, h3.output, Nat.le_trans (by simp) h3.size, fun k hk hne => (h3.block k (by simp; omega) hne).trans (Below.heap_alloc _ _ _ hk)⟩
  refine wpList_plain hgd fun _ hK => ?_
  unfold Oper.wp execOp
  simp only [ho, resolve, invoke, builtin, Sem.run_bind, Sem.run_pure, Result.andThen_ok, List.map_toArray, List.map_cons, List.map_nil, hs, hx, hr]
  exact hK _ _ (h v' w' h2 hg (fun k hk => by rcases h4 k hk with h5 | h5; exact .inl h5; exact .inr (by simp at h5; omega)))

/-- What an append to one's own row leaves of the world. -/
theorem grown_below {w0 w' : World} {base : Nat} {v : Value} {e : TypeId} {size n : Nat} {xs : List Value} (hown : w0.ownsRow base e size v n xs) (hb : base ≤ w0.heap.size) (hg : w0.grownBy w' v.ownBlock) : Below base w0 w' :=
  (Below.refl _ _).grown hg hb (fun k hk => (hown.lt k hk).1)
end Go.Proofs.YtkoegbjnhoecoaaGreatDoor
namespace Go.Proofs.YtkoegbjnhoecoaaGreatDoor
open Go.RowKit Tx

abbrev ff (f : Wr.F) : List Value := [vs f.1, vs f.2]
theorem ff_length (f : Wr.F) : (ff f).length = 2 := rfl
theorem ff_cells {w : World} {b o : Nat} {f : Wr.F} (h : ∀ i u, (ff f)[i]? = some u → w.cell? ⟨b, o + i, none⟩ = some u) : w.cell? ⟨b, o, none⟩ = some (.string (bs f.1)) ∧ w.cell? ⟨b, o + 1, none⟩ = some (.string (bs f.2)) :=
  ⟨h 0 _ rfl, h 1 _ rfl⟩
instance : Inhabited Wr.F := ⟨([], [])⟩
/-- Texts at all. -/
def FOk (f : Wr.F) : Prop := f.1.length ≤ maxLen ∧ f.2.length ≤ maxLen
theorem toListB (l : Bs) : (bs l).toList = l := by rw [ByteArray.toList_eq]; exact bs_list l
theorem step_yes (l : List Wr.F) (k : Nat) (_h : k < l.length) (h1 : ∀ j < k, Wr.stepOk l j = true) (h2 : Wr.stepOk l k = true) : ∀ j < k + 1, Wr.stepOk l j = true := by
  intro j hj
  by_cases hjk : j = k
  · rw [hjk]; exact h2
  · exact h1 j (by omega)

theorem fName_b {b : Bool} (s : Bs) (w : World) (hs : s.length ≤ maxLen) (h : Wr.nameOk s = b) : Calls Tryz.prog 45 #[vs s] w fun e w' => e = .returned (.bool b) ∧ w = w' := by
  subst h
  exact fName_any s w hs
theorem rName_b {b : Bool} (s : Bs) (w : World) (hs : s.length ≤ maxLen) (h : Wr.nameOk s = b) : Calls Tryz.prog 50 #[vs s] w fun e w' => e = .returned (.bool b) ∧ w = w' := by
  subst h
  exact rName_any s w hs
set_option maxHeartbeats 4000000 in
theorem fRight_any (v : Value) (l : List Wr.F) (w : World) (hr : RowC 2 ff w w.heap.size v l) (ok : ∀ f ∈ l, FOk f) :
    Calls Tryz.prog 23 #[v] w fun e w' => e = .returned (.bool (Wr.right l)) ∧ Below w.heap.size w w' := by
  obtain ⟨A, cap, rfl, h1, h2, h3⟩ := hr.shape
  have HC := Lib.hid h3
  have OK := Lib.hid ok
  clear h3 ok hr
  go_enter Tryz.func23, Tryz.ntmps23
  go_wp2_with fail
  go_loopw [7] (fun i wr => ∃ k : Nat, k ≤ l.length ∧ i = .int .i64 k ∧ (∀ j < k, Wr.stepOk l j = true) ∧ Below w.heap.size w wr) (fun i _ => l.length - (RowKit.intOf i).toNat)
  case atStart => exact ⟨0, Nat.zero_le _, rfl, fun j hj => absurd hj (Nat.not_lt_zero _), Below.refl _ _⟩
  case round =>
    obtain ⟨k, hk, rfl, hst, hbel⟩ := hrel
    have HS := Lib.hid hst
    clear hst
    have hle := hbel.size
    by_cases hlt : k < l.length
    · have hi : (k : Int) < (l.length : Int) := by omega
      obtain ⟨b, off, rfl, hbl, hc⟩ := HC.out (by rintro rfl; simp at hlt)
      obtain ⟨c0, c1⟩ := ff_cells (fun i u hu => (hbel.cell (p := ⟨b, off + k * 2 + i, none⟩) hbl).trans (hc k hlt i u hu))
      have hok := OK.out _ (List.getElem_mem hlt)
      have hse := Wr.stepOk_at l k hlt
      have HSY := Lib.hid (step_yes l k hlt HS.out)
      have HNO := Lib.hid (Wr.right_no l k hlt)
      obtain ⟨f, hf⟩ : ∃ f, f = l[k] := ⟨_, rfl⟩
      rw [← hf] at hok hse c0 c1
      clear hf
      obtain ⟨n, t⟩ := f
      obtain ⟨ok1, ok2⟩ := hok
      simp only at ok1 ok2 c0 c1
      have hz1 := bs_size n
      have hz2 := bs_size t
      simp only [maxLen] at ok1 ok2
      have hfile : Wr.fileOk (n, t) = (Wr.nameOk n && decide (t.length ≤ 4000)) := rfl
      rw [hfile] at hse
      simp only at hse
      by_cases hn : Wr.nameOk n = true
      · rw [hn, Bool.true_and] at hse
        by_cases ht : t.length ≤ 4000
        · rw [decide_eq_true ht, Bool.true_and] at hse
          have ht' : decide ((4000 : Int) < ((bs t).size : Int)) = false := decide_eq_false (by omega)
          have ht2 : decide ((4000 : Int) < (t.length : Int)) = false := decide_eq_false (by omega)
          have ht3 : decide (4000 < t.length) = false := decide_eq_false (by omega)
          have ht4 : t.length ≤ 4000 := ht
          rcases Nat.eq_zero_or_pos k with hk0 | hk0
          · have HS2 := Lib.hid (HSY.out (by rw [hse, hk0]; rfl))
            clear hse
            subst hk0
            simp only [Nat.zero_mul, Nat.add_zero] at c0 c1
            go_wp2_with fail
            go_quiet ((go_at_call 45; exact quiet_eq (fName_b n _ (by simp only [maxLen]; omega) hn)))
            go_wp2_with fail
            go_roundw
            case rel => exact ⟨1, by omega, rfl, HS2.out, below_drewN (hbel.alloc hle _) _⟩
            case measure => simp [RowKit.intOf]; omega
          · obtain ⟨j, hj⟩ : ∃ j, k = j + 1 := ⟨k - 1, by omega⟩
            have hjl : j < l.length := by omega
            have hjb : Wr.befOk l k n = Wr.less l[j].1 n := by rw [hj]; exact Wr.befOk_at l j hjl n
            rw [hjb] at hse
            obtain ⟨d0, d1⟩ := ff_cells (fun i u hu => (hbel.cell (p := ⟨b, off + j * 2 + i, none⟩) hbl).trans (hc j hjl i u hu))
            generalize l[j] = pf at *
            obtain ⟨pn, pt⟩ := pf
            simp only at d0 d1 hse
            have hkj : (k : Int) - 1 = (j : Int) := by omega
            have i0 : (0 : Int) ≤ (j : Int) := by omega
            have i1 : (j : Int) < (l.length : Int) := by omega
            have i2 : (0 : Int) < (k : Int) := by omega
            have hb0 : Op.bytesLess (bs pn).toList (bs n).toList = Wr.less pn n := by rw [toListB, toListB]
            have hwj : IntKind.i64.wrap ((k : Int) - 1) = (j : Int) := by rw [hkj]; exact IntWalk.i64_in _ (by omega)
            have d0a := fun o => Lib.cell?_alloc_marked o d0
            clear hjb hj
            by_cases hl : Wr.less pn n = true
            · rw [hl] at hb0 hse
              have HS2 := Lib.hid (HSY.out hse)
              clear hl hse
              go_wp2_with fail
              go_quiet ((go_at_call 45; exact quiet_eq (fName_b n _ (by simp only [maxLen]; omega) hn)))
              go_wp2_with fail
              go_roundw
              case rel => exact ⟨k + 1, by omega, by go_num, HS2.out, below_drewN (hbel.alloc hle _) _⟩
              case measure => simp [RowKit.intOf]; omega
            · have hl : Wr.less pn n = false := by simpa using hl
              rw [hl] at hb0 hse
              have HN2 := Lib.hid (HNO.out hse)
              clear hl hse
              go_wp2_with fail
              go_quiet ((go_at_call 45; exact quiet_eq (fName_b n _ (by simp only [maxLen]; omega) hn)))
              go_wp2_with fail
              go_ret
              exact ⟨by rw [HN2.out]; rfl, below_drewN (hbel.alloc hle _) _⟩
        · rw [decide_eq_false ht, Bool.false_and] at hse
          have HN2 := Lib.hid (HNO.out hse)
          have ht' : decide ((4000 : Int) < ((bs t).size : Int)) = true := decide_eq_true (by omega)
          have ht2 : decide ((4000 : Int) < (t.length : Int)) = true := decide_eq_true (by omega)
          have ht3 : decide (4000 < t.length) = true := decide_eq_true (by omega)
          clear hse
          go_wp2_with fail
          go_quiet ((go_at_call 45; exact quiet_eq (fName_b n _ (by simp only [maxLen]; omega) hn)))
          go_wp2_with fail
          go_ret
          exact ⟨by rw [HN2.out]; rfl, below_drewN (hbel.alloc hle _) _⟩
      · have hn : Wr.nameOk n = false := by simpa using hn
        rw [hn, Bool.false_and, Bool.false_and] at hse
        have HN2 := Lib.hid (HNO.out hse)
        clear hse
        go_wp2_with fail
        go_quiet ((go_at_call 45; exact quiet_eq (fName_b n _ (by simp only [maxLen]; omega) hn)))
        go_wp2_with fail
        go_ret
        exact ⟨by rw [HN2.out]; rfl, below_drewN (hbel.alloc hle _) _⟩
    · obtain rfl : k = l.length := by omega
      have HE := Lib.hid (Wr.right_end l HS.out)
      by_cases h32 : l.length ≤ 32
      · have HF : Hid (Wr.right l = true) := Lib.hid (by rw [HE.out]; exact decide_eq_true h32)
        have h4 : decide ((l.length : Int) ≤ 32) = true := decide_eq_true (by omega)
        go_wp2_with fail
        go_ret
        exact ⟨by rw [HF.out]; first | rfl | (simp; omega), hbel⟩
      · have HF : Hid (Wr.right l = false) := Lib.hid (by rw [HE.out]; exact decide_eq_false h32)
        have h4 : decide ((l.length : Int) ≤ 32) = false := decide_eq_false (by omega)
        go_wp2_with fail
        go_ret
        exact ⟨by rw [HF.out]; first | rfl | (simp; omega), hbel⟩
end Go.Proofs.YtkoegbjnhoecoaaGreatDoor
