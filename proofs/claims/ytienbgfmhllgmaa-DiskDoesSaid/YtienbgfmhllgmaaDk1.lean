/- The disk as a state; how a world holds it; the walks of has, use, Len, Pending, Limit. -/
import Derived.Test.YtienbgfmhllgmaaRows
import Derived.Test.YtienbgfmhllgmaaKit
import Derived.Test.YtienbgfmhllgmaaMap
import Derived.OpenShut
namespace Go.Proofs.Ytienbgfmhllgmaa
open Go.Maps Go.RowKit

namespace Dk
abbrev Wr := Int × ByteArray
def enc (w : Wr) : Value := .agg #[.int .i64 w.1, .string w.2]
def flat (l : List Wr) : List Value := l.flatMap fun w => [.int .i64 w.1, .string w.2]
structure St where
  lim : Option Int
  n : Int
  held : Int → Option Wr
  cnt : Nat
  pend : List Wr
def put (h : Int → Option Wr) (w : Wr) : Int → Option Wr := fun j => if j = w.1 then some w else h j
def puts (h : Int → Option Wr) (l : List Wr) : Int → Option Wr := l.foldl put h
def dead (l : Option Int) : Bool := match l with | some k => decide (k < 1) | none => false
def used (l : Option Int) : Option Int := l.map (· - 1)
def has (s : St) (i : Int) : Bool := decide (0 ≤ i) && decide (i < s.n)
def write (s : St) (i : Int) (t : ByteArray) : Int × St :=
  if has s i = false then (1, s) else if 64 < t.size then (3, s) else if dead s.lim = true then (8, s) else (0, { s with lim := used s.lim, pend := s.pend ++ [(i, t)] })
def sync (s : St) : Int × St :=
  if dead s.lim = true then (8, s) else (0, { s with lim := used s.lim, held := puts s.held s.pend, cnt := s.cnt + s.pend.length, pend := [] })
def kept : List Wr → List Bool → List Wr
  | w :: l, k :: ks => if k then w :: kept l ks else kept l ks
  | _, _ => []
def crash (s : St) (keep : List Bool) : St := { s with lim := none, held := puts s.held (kept s.pend keep), cnt := s.cnt + s.pend.length, pend := [] }
def at_ (s : St) (i : Int) : ByteArray := match puts s.held s.pend i with | some w => w.2 | none => ⟨#[]⟩
def read (s : St) (i : Int) : ByteArray × Int := if has s i = false then (⟨#[]⟩, 1) else (at_ s i, 0)

theorem flat_length (l : List Wr) : (flat l).length = l.length * 2 := by
  induction l with
  | nil => rfl
  | cons a l ih => simp [flat] at ih ⊢; omega
theorem flat_append (l m : List Wr) : flat (l ++ m) = flat l ++ flat m := by simp [flat]
theorem flat_at (l : List Wr) (k : Nat) (h : k < l.length) : (flat l)[2 * k]? = some (.int .i64 l[k].1) ∧ (flat l)[2 * k + 1]? = some (.string l[k].2) := by
  induction l generalizing k with
  | nil => simp at h
  | cons a l ih =>
    cases k with
    | zero => simp [flat]
    | succ k =>
      have := ih k (by simpa using h)
      have e : flat (a :: l) = .int .i64 a.1 :: .string a.2 :: flat l := rfl
      rw [e, show 2 * (k + 1) = 2 * k + 1 + 1 by omega]
      simpa using this

/-- The block of a disk's own cells. -/
def blk (is : Bool) (l n : Int) (bm : Nat) (pv : Value) : Obj := .cells #[.bool is, .int .i64 l, .int .i64 n, .map (some bm), pv] 62 (0, 0)

/-- Block bd is a disk in the state s; its blocks are F. -/
def Of (w : World) (bd : Nat) (s : St) (F : List Nat) : Prop :=
  ∃ l bm pv, w.heap[bd]? = some (blk s.lim.isSome l s.n bm pv) ∧ (∀ k, s.lim = some k → l = k) ∧ ((Lit.int .i64 l).wf = true ∧ ∀ u ∈ s.pend, (Lit.int .i64 u.1).wf = true) ∧ bd ≠ bm ∧ pv.ownBlock ≠ some bd ∧ pv.ownBlock ≠ some bm ∧
    MapOf w 3 bm s.cnt (fun i => (s.held i).map enc) ∧ w.ownsRow 0 65 2 pv s.pend.length (flat s.pend) ∧ F = bd :: bm :: pv.ownBlock.toList

theorem cells_setCell {w : World} {b j : Nat} {c : Array Value} {t : TypeId} (h : w.heap[b]? = some (.cells c t (0, 0))) (v : Value) : (w.setCell ⟨b, j, none⟩ v).heap[b]? = some (.cells (c.setIfInBounds j v) t (0, 0)) := by
  have hlt := lt_of_block h
  have h' : w.heap[b] = .cells c t (0, 0) := by simpa [Array.getElem?_eq_getElem hlt] using h
  show (w.heap.modify b _)[b]? = _
  rw [Array.getElem?_eq_getElem (by simpa using hlt), Array.getElem_modify_self, h']
  rfl
theorem cell_of {w : World} {b j : Nat} {c : Array Value} {t : TypeId} (h : w.heap[b]? = some (.cells c t (0, 0))) : w.cell? ⟨b, j, none⟩ = c[j]? := by simp [World.cell?, h]
theorem free_of {w : World} {b j : Nat} {c : Array Value} {t : TypeId} (h : w.heap[b]? = some (.cells c t (0, 0))) : w.frozen? ⟨b, j, none⟩ = false := by simp [World.frozen?, h]
end Dk

set_option maxHeartbeats 400000 in
theorem has_any (bd : Nat) (is : Bool) (l n i : Int) (bm : Nat) (pv : Value) (w : World) (h : w.heap[bd]? = some (Dk.blk is l n bm pv)) :
    Calls Try.prog 22 #[.pointer (some ⟨bd, 0, none⟩), .int .i64 i] w fun e w' => e = .returned (.bool (decide (0 ≤ i) && decide (i < n))) ∧ w = w' := by
  have h2 : w.cell? ⟨bd, 2, none⟩ = some (.int .i64 n) := by rw [Dk.cell_of h]; rfl
  clear h
  go_enter Try.func22, Try.ntmps22
  go_wp2
  all_goals go_ret
  all_goals exact ⟨ret_bool (by simp; omega), rfl⟩

set_option maxHeartbeats 400000 in
theorem use_any (bd : Nat) (is : Bool) (l n : Int) (bm : Nat) (pv : Value) (w : World) (h : w.heap[bd]? = some (Dk.blk is l n bm pv)) :
    Calls Try.prog 23 #[.pointer (some ⟨bd, 0, none⟩)] w fun e w' => e = .returned (.bool (!(is && decide (l < 1)))) ∧ w' = (if is && decide (l < 1) then w else w.setCell ⟨bd, 1, none⟩ (.int .i64 (wrap64 (l - 1)))) := by
  have h0 : w.cell? ⟨bd, 0, none⟩ = some (.bool is) := by rw [Dk.cell_of h]; rfl
  have h1 : w.cell? ⟨bd, 1, none⟩ = some (.int .i64 l) := by rw [Dk.cell_of h]; rfl
  have hf : w.frozen? ⟨bd, 1, none⟩ = false := Dk.free_of h
  clear h
  cases is
  · refine Calls.mono (R := fun e w' => e = .returned (.bool true) ∧ w' = w.setCell ⟨bd, 1, none⟩ (.int .i64 (wrap64 (l - 1)))) ?_ (fun _ _ ⟨h1, h2⟩ => ⟨by simp [h1], by simp [h2]⟩)
    go_enter Try.func23, Try.ntmps23
    go_wp2
    go_ret
    exact ⟨rfl, rfl⟩
  · by_cases hl : l < 1
    · refine Calls.mono (R := fun e w' => e = .returned (.bool false) ∧ w' = w) ?_ (fun _ _ ⟨h1, h2⟩ => ⟨by simp [h1, hl], by simp [h2, hl]⟩)
      go_enter Try.func23, Try.ntmps23
      go_wp2
      go_ret
      exact ⟨rfl, rfl⟩
    · refine Calls.mono (R := fun e w' => e = .returned (.bool true) ∧ w' = w.setCell ⟨bd, 1, none⟩ (.int .i64 (wrap64 (l - 1)))) ?_ (fun _ _ ⟨h1, h2⟩ => ⟨by simp [h1, hl], by simp [h2, hl]⟩)
      go_enter Try.func23, Try.ntmps23
      go_wp2
      go_ret
      exact ⟨rfl, rfl⟩

theorem has_at (b : Bool) (bd : Nat) (is : Bool) (l n i : Int) (bm : Nat) (pv : Value) (w : World) (h : w.heap[bd]? = some (Dk.blk is l n bm pv)) (hb : (decide (0 ≤ i) && decide (i < n)) = b) :
    Calls Try.prog 22 #[.pointer (some ⟨bd, 0, none⟩), .int .i64 i] w fun e w' => e = .returned (.bool b) ∧ w = w' := hb ▸ has_any bd is l n i bm pv w h
theorem use_dead (bd : Nat) (is : Bool) (l n : Int) (bm : Nat) (pv : Value) (w : World) (h : w.heap[bd]? = some (Dk.blk is l n bm pv)) (hd : (is && decide (l < 1)) = true) :
    Calls Try.prog 23 #[.pointer (some ⟨bd, 0, none⟩)] w fun e w' => e = .returned (.bool false) ∧ w = w' :=
  (use_any bd is l n bm pv w h).mono fun _ _ ⟨h1, h2⟩ => ⟨by rw [h1, hd]; rfl, by rw [h2, hd]; rfl⟩
theorem use_live (bd : Nat) (is : Bool) (l n : Int) (bm : Nat) (pv : Value) (w : World) (h : w.heap[bd]? = some (Dk.blk is l n bm pv)) (hd : (is && decide (l < 1)) = false) :
    Calls Try.prog 23 #[.pointer (some ⟨bd, 0, none⟩)] w fun e w' => e = .returned (.bool true) ∧ w' = w.setCell ⟨bd, 1, none⟩ (.int .i64 (wrap64 (l - 1))) :=
  (use_any bd is l n bm pv w h).mono fun _ _ ⟨h1, h2⟩ => ⟨by rw [h1, hd]; rfl, by rw [h2, hd]; rfl⟩
theorem Dk.dead_eq (lim : Option Int) (l : Int) (h : ∀ k, lim = some k → l = k) : (lim.isSome && decide (l < 1)) = Dk.dead lim := by
  cases lim with
  | none => rfl
  | some k => rw [h k rfl]; rfl
theorem Dk.used_eq (lim : Option Int) (l : Int) (h : ∀ k, lim = some k → l = k) (hl : (Lit.int .i64 l).wf = true) (hd : Dk.dead lim = false) : ∀ k, Dk.used lim = some k → wrap64 (l - 1) = k := by
  intro k hk
  cases lim with
  | none => cases hk
  | some j =>
    obtain rfl := h j rfl
    simp [Dk.used] at hk
    simp [Dk.dead] at hd
    have := bounds_i64 hl
    unfold wrap64
    omega
end Go.Proofs.Ytienbgfmhllgmaa
