/- Small words and lemmas of my own, used by all proofs of this seat: how a slice reads as a list, returns, worlds. · Texts as lists of bytes: pieces between marks, words, joining. Plain Lean. · The plain law of texts with their length ahead: to read a length, a text, all texts; what was put is got, and nothing else is. · The plain law of maps as bytes: what a map is; to parse one; a map's bytes are parsed as it was; a map that is put together is one. · files.Name and the reference's Name. · From what a row's frame tells of an argument to what the walks ask. -/
import Derived.WalkKit
import Derived.WalkMore
import Derived.WalkSpells
import Derived.WalkLawsBesides
import Derived.Lib.Hide
import Derived.Handy
import Derived.Deep.LoopGhost
import Derived.Deep.DeepCutAuto
import Derived.Deep.CutBlock
import Derived.Deep.QuietTactic
import Derived.BigQuiet
import Derived.Deep.Draws
import Derived.Deep.AppendLies
import Derived.ShutString
import Derived.Lib.QuietBelow
import Derived.Deep.RegionWith
import Derived.Deep.RegionHeld3
import Derived.Deep.RegionLaw
import Derived.Laws.CopyOwn
import Derived.StillTailTactics
import Derived.Laws.AppendOwnNone
import Derived.Lib.Join
import Derived.Lib.ItoaNum
import GoSem.Op.String
import Derived.Test.YtiogmegdkfnkkaaGreatDoorRows
import Derived.Test.YtiogmegdkfnkkaaGreatDoorShelf
import Derived.ProofKit
import Derived.OpenShut
namespace Go.Proofs.YtiogmegdkfnkkaaGreatDoor
open Go.RowKit

theorem ret_int {k : IntKind} {a b : Int} (h : a = b) : Ending.returned (.int k a) = .returned (.int k b) := by rw [h]
theorem ret_nat {k : IntKind} {a b : Nat} (h : a = b) : Ending.returned (.int k (a : Int)) = .returned (.int k (b : Int)) := by rw [h]
theorem ret_bool {a b : Bool} (h : a = b) : Ending.returned (.bool a) = .returned (.bool b) := by rw [h]

/-- Block number B and all below it are as they were, and draws besides. -/
theorem below_drewN {B : Nat} {a w : World} (h : Below B a w) (n : Nat) : Below B a (w.drewN n) := ⟨h.os, h.tape, h.output, h.size, h.block⟩
theorem below_of_drewN {B : Nat} {a : World} (n : Nat) : Below B a (a.drewN n) := below_drewN (Below.refl _ _) n

theorem drewN_ex0 (w : World) : ∃ n, w = w.drewN n := ⟨0, rfl⟩
theorem drewN_ex1 (w : World) (a : Nat) : ∃ n, w.drewN a = w.drewN n := ⟨a, rfl⟩
theorem drewN_ex2 (w : World) (a b : Nat) : ∃ n, (w.drewN a).drewN b = w.drewN n := ⟨a + b, World.drewN_drewN _ _ _⟩

/-- In every world of the class of a region whose callees may lay blocks. -/
theorem regrown_below (w : World) (p : Regrown) : Below w.heap.size w (Go.Sort.grow (redrawn w p.d) p.os) := below_regrown w p.d p.os
theorem calls_regrown {P : Program} {f : FuncId} {args : Array Value} {w : World} {p : Regrown} {v : Value}
    (h : Calls P f args (Go.Sort.grow (redrawn w p.d) p.os) fun e w' => e = .returned v ∧ Below (Go.Sort.grow (redrawn w p.d) p.os).heap.size (Go.Sort.grow (redrawn w p.d) p.os) w') :
    Calls P f args (Go.Sort.grow (redrawn w p.d) p.os) fun e w'' => e = .returned v ∧ ∃ p : Regrown, w'' = Go.Sort.grow (redrawn w p.d) p.os := Calls.regrown_of h

/-- A callee that leaves the world as it is, met in a quiet region. -/
theorem quiet_eq {P : Program} {f : FuncId} {args : Array Value} {w : World} {n : Nat} {v : Value}
    (h : Calls P f args (w.drewN n) fun e w' => e = .returned v ∧ w.drewN n = w') : Calls P f args (w.drewN n) fun e w'' => e = .returned v ∧ ∃ m, w'' = w.drewN m :=
  h.mono fun _ _ ⟨he, hm⟩ => ⟨he, n, hm.symm⟩
theorem quiet_eq2 {P : Program} {f : FuncId} {args : Array Value} {w : World} {a n : Nat} {v : Value}
    (h : Calls P f args (w.drewN (a + n)) fun e w' => e = .returned v ∧ w.drewN (a + n) = w') : Calls P f args (w.drewN (a + n)) fun e w'' => e = .returned v ∧ ∃ m, w'' = w.drewN (a + m) :=
  h.mono fun _ _ ⟨he, hm⟩ => ⟨he, n, hm.symm⟩

/-- The lexical walk of a quiet region, at the class of the one world w, is a still walk: so its cheap steps serve ahead of a tail that writes. -/
theorem still_of_quiet {P : Program} {o : Oper} {a : Act} {w : World} {K : Act → Prop} (h : o.quiet P a (fun w' => w' = w) K) : o.still P a w K := by
  obtain ⟨v, h1, h2⟩ := h
  have h3 := h1 w rfl
  unfold Oper.quietAt at h3
  unfold Oper.still
  generalize (execOp a.eval o).run P w = r at *
  cases r with
  | ok n w' =>
    cases n <;> simp only [Oper.quietUpon] at h3 <;> simp only [Oper.stillUpon]
    case value u => exact ⟨h3.1, h3.2 ▸ h2⟩
    case skip => exact ⟨h3.1, h3.2 ▸ h2⟩
    case enter f args => exact ⟨h3.1, v, h3.2, h2⟩
  | halt x w' => simp only [Oper.quietUpon] at h3
theorem wpStill_of_quiet {P : Program} {ops : Array Oper} {w : World} {Q : Act → Prop} : ∀ (l : List Oper) (a : Act), wpQuiet P ops (fun w' => w' = w) Q l a → wpStill P ops w Q l a := by
  intro l
  induction l with
  | nil => intro a h; exact h
  | cons o l ih =>
    intro a h
    unfold wpQuiet at h
    unfold wpStill
    split
    · rename_i hw
      rw [if_pos hw] at h
      exact Oper.still_mono (fun a' h' => ih a' h') (still_of_quiet h)
    · rename_i hw
      rw [if_neg hw] at h
      exact ih _ h

/-- A region that draws its order: n operations that only read or call quietly, then a tail in one order. -/
theorem wp_region_quiet_tail {P : Program} {id : Nat} {Q : Exit → Act → World → Prop} {a : Act} {w : World} {l : List Oper} (n : Nat) (hm : P.follows .mixedOrders = true) (hB : Region.lexTailB .any l.toArray n = true)
    (h : wpQuiet P l.toArray (fun w' => w' = w.drew) (fun a' => wpList P l.toArray Q (l.drop n) a' w.drew) (l.take n) a) : (Code.region id l.toArray true).wp P Q a w :=
  wp_region_still_tail n hm hB (wpStill_of_quiet _ _ h)

/-- What a value of type 'slice' says: it reads as the list xs (an element is one cell, written by f), below block B. -/
def Row {α : Type} (f : α → Value) (w : World) (B : Nat) (v : Value) (xs : List α) : Prop :=
  ∃ cap, xs.length ≤ cap ∧ cap ≤ maxLen ∧
    ((xs = [] ∧ ∃ A, v = .slice A 0 cap) ∨
     (∃ b off, v = .slice (some ⟨b, off, none⟩) xs.length cap ∧ b < B ∧ ∀ j (h : j < xs.length), w.cell? ⟨b, off + j, none⟩ = some (f xs[j])))

abbrev Ints := Row (Value.int .i64)

section
variable {α : Type} {f : α → Value} {w w' : World} {B B' : Nat} {v : Value} {xs : List α}
theorem Row.keep (h : Row f w B v xs) (hk : ∀ p : Addr, p.block < B → w'.cell? p = w.cell? p) : Row f w' B v xs := by
  obtain ⟨cap, h1, h2, h3⟩ := h
  refine ⟨cap, h1, h2, ?_⟩
  rcases h3 with h3 | ⟨b, off, hv, hb, hc⟩
  · exact .inl h3
  · exact .inr ⟨b, off, hv, hb, fun j hj => (hk _ hb).trans (hc j hj)⟩
theorem Row.more (h : Row f w B v xs) (hB : B ≤ B') : Row f w B' v xs := by
  obtain ⟨cap, h1, h2, h3⟩ := h
  refine ⟨cap, h1, h2, ?_⟩
  rcases h3 with h3 | ⟨b, off, hv, hb, hc⟩
  · exact .inl h3
  · exact .inr ⟨b, off, hv, by omega, hc⟩
theorem Row.below {C : Nat} (h : Row f w B v xs) (hb : Below C w w') (hB : B ≤ C) : Row f w' B v xs := h.keep fun _ hp => hb.cell (Nat.lt_of_lt_of_le hp hB)
theorem Row.drewN (h : Row f w B v xs) (n : Nat) : Row f (w.drewN n) B v xs := h
theorem Row.nil (f : α → Value) (w : World) (B : Nat) (A : Option Addr) (cap : Nat) (h : cap ≤ maxLen) : Row f w B (.slice A 0 cap) ([] : List α) := ⟨cap, by simp, h, .inl ⟨rfl, A, rfl⟩⟩
/-- Its shape, whatever the length; its cells, where there are any. -/
theorem Row.shape (h : Row f w B v xs) : ∃ A cap, v = .slice A xs.length cap ∧ xs.length ≤ cap ∧ cap ≤ 9223372036854775807 ∧
    (xs ≠ [] → ∃ b off, A = some ⟨b, off, none⟩ ∧ b < B ∧ ∀ j (h : j < xs.length), w.cell? ⟨b, off + j, none⟩ = some (f xs[j])) := by
  obtain ⟨cap, h1, h2, h3⟩ := h
  have h2' : cap ≤ 9223372036854775807 := by simpa [maxLen] using h2
  rcases h3 with ⟨rfl, A, rfl⟩ | ⟨b, off, rfl, hb, hc⟩
  · exact ⟨A, cap, rfl, by simp, h2', fun h => absurd rfl h⟩
  · exact ⟨_, cap, rfl, h1, h2', fun _ => ⟨b, off, rfl, hb, hc⟩⟩
/-- A row that the call itself owns reads as its list. -/
theorem Row.own {base : Nat} {e : TypeId} {n : Nat} (h : w.ownsRow base e 1 v n (xs.map f)) : Row f w w.heap.size v xs := by
  have hl : xs.length = n := by have := h.1; simpa using this
  rcases h.2 with ⟨rfl, hn⟩ | ⟨g, cap, cur, rfl, hb, hg, hnc, hcm, hcs, htake⟩
  · have : xs = [] := List.eq_nil_of_length_eq_zero (by omega)
    subst this
    exact Row.nil _ _ _ _ _ (by simp)
  · refine ⟨cap, by omega, hcm, .inr ⟨g, 0, by rw [hl], (Array.getElem?_eq_some_iff.1 hg).1, fun j hj => ?_⟩⟩
    have := h.cellAt j (by omega)
    simp only [Nat.zero_add]
    rw [this]
    simp [hj]
theorem Row.own_lt {base : Nat} {e : TypeId} {n : Nat} (h : w.ownsRow base e 1 v n (xs.map f)) (hB : w.heap.size ≤ B) : Row f w B v xs := (Row.own h).more hB
end

/-- The address of a piece, behind a name that the walk does not open. -/
def slAddr (a : Option Addr) (l m s : Nat) : Option Addr := if m = l then a else a.map (·.add (l * s))
theorem sliced_sl (a : Option Addr) (l h m s : Nat) : sliced a l h m s = .slice (slAddr a l m s) (h - l) (m - l) := rfl
attribute [go_sem ↓ high] sliced_sl

/-- A piece 'v[n:]' of a row. -/
theorem row_cut {α : Type} {f : α → Value} {w : World} {B n : Nat} {v : Value} {xs : List α} (h : Row f w B v xs) (hn : n ≤ xs.length) :
    ∀ A m c, v = .slice A m c → Row f w B (.slice (slAddr A n c 1) (m - n) (c - n)) (xs.drop n) := by
  intro A m c hv
  obtain ⟨cap, h1, h2, h3⟩ := h
  rcases h3 with ⟨rfl, A', rfl⟩ | ⟨b, off, rfl, hb, hc⟩
  · cases hv
    simp only [List.length_nil, Nat.le_zero_eq] at hn
    subst hn
    exact ⟨c, by simp, by simpa using h2, .inl ⟨by simp, _, rfl⟩⟩
  · cases hv
    by_cases hc0 : c = n
    · have : n = xs.length := by omega
      subst this
      exact ⟨c - xs.length, by simp, by omega, .inl ⟨by simp, some ⟨b, off, none⟩, by simp [slAddr, hc0]⟩⟩
    · refine ⟨c - n, by simp; omega, by omega, .inr ⟨b, off + n, ?_, hb, fun j hj => ?_⟩⟩
      · simp [slAddr, hc0, Addr.add_lit]
      · have := hc (n + j) (by simp at hj; omega)
        rw [List.getElem_drop, Nat.add_assoc]
        exact this

/-- A piece 'v[n:m]' of a row. -/
theorem row_cut2 {α : Type} {f : α → Value} {w : World} {B n m : Nat} {v : Value} {xs : List α} (h : Row f w B v xs) (hn : n ≤ m) (hm : m ≤ xs.length) :
    ∀ A l c, v = .slice A l c → Row f w B (.slice (slAddr A n c 1) (m - n) (c - n)) ((xs.drop n).take (m - n)) := by
  intro A l c hv
  obtain ⟨cap, h1, h2, h3⟩ := row_cut h (Nat.le_trans hn hm) A l c hv
  obtain ⟨A', c', h4, h5, _, h6⟩ := h.shape
  rw [hv] at h4
  injection h4 with e1 e2 e3
  rcases h3 with ⟨he, A'', h4⟩ | ⟨b, off, h4, hb, hc⟩
  · have hl : m - n = 0 := by
      have : xs.length ≤ n := by simpa using he
      omega
    rw [hl, he]
    exact ⟨cap, by simp, h2, .inl ⟨by simp, _, by injection h4 with e1 e2 e3; rw [e1, e3]⟩⟩
  · simp only [List.length_drop] at h4
    injection h4 with e1 e2 e3
    have hlen : ((xs.drop n).take (m - n)).length = m - n := by simp; omega
    refine ⟨cap, by simp at h1 ⊢; omega, h2, .inr ⟨b, off, by rw [e1, e3, hlen], hb, fun j hj => ?_⟩⟩
    rw [List.getElem_take]
    exact hc j (by simp at hj ⊢; omega)

theorem Row.mk_at {α : Type} {f : α → Value} {w : World} {B b off cap : Nat} {xs : List α} (h1 : xs.length ≤ cap) (h2 : cap ≤ maxLen) (hb : b < B)
    (hc : ∀ j (h : j < xs.length), w.cell? ⟨b, off + j, none⟩ = some (f xs[j])) : Row f w B (.slice (some ⟨b, off, none⟩) xs.length cap) xs :=
  ⟨cap, h1, h2, .inr ⟨b, off, rfl, hb, hc⟩⟩
/-- A row that was laid just now, all its elements written out. -/
theorem row_lit {α : Type} (f : α → Value) (xs : List α) (w : World) (e : TypeId) (hl : xs.length ≤ maxLen) :
    Row f (w.alloc (.cells (xs.map f).toArray e)) (w.heap.size + 1) (.slice (some ⟨w.heap.size, 0, none⟩) xs.length xs.length) xs := by
  refine Row.mk_at (Nat.le_refl _) hl (Nat.lt_succ_self _) (fun j hj => ?_)
  rw [Nat.zero_add, cell_of_row _ w.heap.size j _ e (0, 0) (heap_alloc_new w _)]
  simp [hj]
theorem Row.alloc {α : Type} {f : α → Value} {w : World} {B : Nat} {v : Value} {xs : List α} (h : Row f w B v xs) (hB : B ≤ w.heap.size) (o : Obj) : Row f (w.alloc o) B v xs :=
  h.below ((Below.refl B w).alloc hB o) (Nat.le_refl _)
theorem Row.step {α : Type} {f : α → Value} {w w' : World} {v : Value} {xs : List α} (h : Row f w w.heap.size v xs) (hb : Below w.heap.size w w') : Row f w' w'.heap.size v xs :=
  (h.below hb (Nat.le_refl _)).more hb.size
theorem Row.step_lit {α : Type} {f : α → Value} {w w' : World} {v : Value} {xs : List α} {o : Obj} (h : Row f w w.heap.size v xs) (hb : Below (w.alloc o).heap.size (w.alloc o) w') : Row f w' w'.heap.size v xs :=
  ((h.alloc (Nat.le_refl _) o).more (by simp)).step hb
theorem Row.step_lit2 {α : Type} {f : α → Value} {w w' : World} {v : Value} {xs : List α} {o o' : Obj} (h : Row f w w.heap.size v xs) (hb : Below ((w.alloc o).alloc o').heap.size ((w.alloc o).alloc o') w') : Row f w' w'.heap.size v xs :=
  (((h.alloc (Nat.le_refl _) o).more (by simp)).alloc (Nat.le_refl _) o').more (by simp) |>.step hb
theorem row_lit2a {α : Type} (f : α → Value) (xs : List α) (w : World) (e : TypeId) (o : Obj) (hl : xs.length ≤ maxLen) :
    Row f ((w.alloc (.cells (xs.map f).toArray e)).alloc o) (w.heap.size + 2) (.slice (some ⟨w.heap.size, 0, none⟩) xs.length xs.length) xs :=
  ((row_lit f xs w e hl).alloc (by simp) o).more (by omega)
theorem row_lit2b {α : Type} (f : α → Value) (xs : List α) (w : World) (e : TypeId) (o : Obj) (hl : xs.length ≤ maxLen) :
    Row f ((w.alloc o).alloc (.cells (xs.map f).toArray e)) (w.heap.size + 2) (.slice (some ⟨w.heap.size + 1, 0, none⟩) xs.length xs.length) xs := by
  have := row_lit f xs (w.alloc o) e hl
  simpa using this
theorem below_lit2 {B : Nat} {a w : World} (h : Below B a w) (hB : B ≤ w.heap.size) (o o' : Obj) {w' : World} {C : Nat} (h' : Below C ((w.alloc o).alloc o') w') (hC : B ≤ C) : Below B a w' :=
  ((h.alloc hB o).alloc (by simp; omega) o').trans (h'.mono hC)
theorem below_lit {B : Nat} {a w : World} (h : Below B a w) (hB : B ≤ w.heap.size) (o : Obj) {w' : World} {C : Nat} (h' : Below C (w.alloc o) w') (hC : B ≤ C) : Below B a w' :=
  (h.alloc hB o).trans (h'.mono hC)

/-- What is owned stays owned where nothing old has turned. -/
theorem own_below {w w' : World} {base : Nat} {e : TypeId} {size : Nat} {v : Value} {n : Nat} {xs : List Value} (h : w.ownsRow base e size v n xs) (hb : Below w.heap.size w w') : w'.ownsRow base e size v n xs := by
  refine ⟨h.1, ?_⟩
  rcases h.2 with h2 | ⟨g, cap, cur, hv, hbg, hg, rest⟩
  · exact .inl h2
  · exact .inr ⟨g, cap, cur, hv, hbg, (hb.block g (Array.getElem?_eq_some_iff.1 hg).1).trans hg, rest⟩

/-- 'out = append(out, x)', out nil or the call's own, x one cell that was just laid in a block of its own. -/
theorem wpList_app1 {P : Program} {w0 : World} {ops : Array Oper} {rest : List Oper} {o : Oper} {a : Act} {Q : Exit → Act → World → Prop} (hgd : o.guard = none) (s x : Operand) (t : TypeId)
    (ho : o.op = .call { callee := .builtin .append, args := #[s, x], argTypes := #[t, t] })
    (base : Nat) (e : TypeId) (i : TypeInfo) (z : Value) (bytes : Nat) (ht : P.underlying t = some (.slice e)) (hi : P.info? e = some i) (hz : i.zero = some z)
    (hsize : i.size = 1) (hby : i.bytes = bytes) (hzs : z.cells.size = 1)
    (v : Value) (n : Nat) (xs : List Value) (u : Value) (hu : u.oneCell' = true) (hs : a.eval s = v) (hx : a.eval x = .slice (some ⟨w0.heap.size, 0, none⟩) 1 1)
    (hown : w0.ownsRow base e 1 v n xs) (hb : base ≤ w0.heap.size)
    (h63 : n + 1 ≤ maxLen) (hbytes : (n + 1) * bytes ≤ 140737488355328)
    (h : ∀ v' w', w'.ownsRow base e 1 v' (n + 1) (xs ++ [u]) → Below base w0 w' → w0.grownBy w' v.ownBlock → wpList P ops Q rest (a.put o.dst v') w') :
    wpList P ops Q (o :: rest) a (w0.alloc (.cells #[u] e)) := by
  refine wpList_append_own _ hgd s x t ho base e i z 1 bytes ht hi hz hsize hby hzs (by decide) v n xs hs (hown.alloc _) ⟨w0.heap.size, 0, none⟩ 1 1 [u] hx rfl ?_ ?_ h63 hbytes (by simp; omega) ?_
  · intro j y hj
    match j, hj with
    | 0, hj => simp at hj; subst hj; simp [Addr.add]
  · intro y hy; simp at hy; subst hy; exact hu
  · intro v' w' h1 h2 _
    have hg : w0.grownBy w' v.ownBlock := ⟨h2.os, h2.tape, h2.output, Nat.le_trans (by simp) h2.size, fun k hk hne => (h2.block k (by simp; omega) hne).trans (Below.heap_alloc _ _ _ hk)⟩
    exact h v' w' h1 ((Below.refl _ _).grown hg hb (fun k hk => (hown.lt k hk).1)) hg

end Go.Proofs.YtiogmegdkfnkkaaGreatDoor
namespace Go.Proofs.YtiogmegdkfnkkaaGreatDoor

namespace Tx
theorem snoc_ind {α : Type} {P : List α → Prop} (nil : P []) (snoc : ∀ l a, P l → P (l ++ [a])) (l : List α) : P l := by
  have h : ∀ m : List α, P m.reverse := fun m => by
    induction m with
    | nil => exact nil
    | cons a m ih => rw [List.reverse_cons]; exact snoc _ _ ih
  have := h l.reverse
  rwa [List.reverse_reverse] at this
abbrev Bs := List UInt8
def bs (l : Bs) : ByteArray := ⟨l.toArray⟩
abbrev vs (l : Bs) : Value := .string (bs l)
theorem bs_list (l : Bs) : (bs l).data.toList = l := by simp [bs]
theorem bs_of (s : ByteArray) : bs s.data.toList = s := by cases s; simp [bs]
theorem bs_size (l : Bs) : (bs l).size = l.length := by simp [bs, ByteArray.size]
theorem size_list (s : ByteArray) : s.data.toList.length = s.size := by rw [Array.length_toList]; rfl
theorem bs_inj {a b : Bs} (h : bs a = bs b) : a = b := by rw [← bs_list a, h, bs_list]
theorem bs_append (a b : Bs) : bs a ++ bs b = bs (a ++ b) := by
  apply ByteArray.ext
  simp [bs, ByteArray.data_append]
theorem bs_extract (s : ByteArray) (i j : Nat) : s.extract i j = bs ((s.data.toList.take j).drop i) := by
  apply ByteArray.ext
  simp only [bs, ByteArray.data_extract]
  apply Array.ext'
  simp [Array.toList_extract, List.extract_eq_take_drop]
  rw [List.drop_take]
theorem bs_extract' (l : Bs) (i j : Nat) : (bs l).extract i j = bs ((l.take j).drop i) := by rw [bs_extract, bs_list]
theorem bs_iff (a b : Bs) : bs a = bs b ↔ a = b := ⟨bs_inj, fun h => by rw [h]⟩

/-- What stands between bytes at which p strikes: what is whole, and what stands last. -/
def stp (p : UInt8 → Bool) (s : List Bs × Bs) (c : UInt8) : List Bs × Bs := if p c then (s.1 ++ [s.2], []) else (s.1, s.2 ++ [c])
def sp (p : UInt8 → Bool) (l : Bs) : List Bs × Bs := l.foldl (stp p) ([], [])
def pieces (p : UInt8 → Bool) (l : Bs) : List Bs := (sp p l).1 ++ [(sp p l).2]
theorem sp_nil (p : UInt8 → Bool) : sp p [] = ([], []) := rfl
theorem sp_snoc (p : UInt8 → Bool) (l : Bs) (c : UInt8) : sp p (l ++ [c]) = stp p (sp p l) c := by simp [sp, List.foldl_append]
theorem sp_hit (p : UInt8 → Bool) (l : Bs) (c : UInt8) (h : p c = true) : sp p (l ++ [c]) = ((sp p l).1 ++ [(sp p l).2], []) := by rw [sp_snoc, stp, if_pos h]
theorem sp_miss (p : UInt8 → Bool) (l : Bs) (c : UInt8) (h : p c = false) : sp p (l ++ [c]) = ((sp p l).1, (sp p l).2 ++ [c]) := by rw [sp_snoc, stp, if_neg (by simp [h])]
theorem sp_more (p : UInt8 → Bool) (m : Bs) : ∀ (l : Bs), (∀ c ∈ m, p c = false) → sp p (l ++ m) = ((sp p l).1, (sp p l).2 ++ m) := by
  induction m with
  | nil => intro l _; simp
  | cons c m ih =>
    intro l h
    rw [show l ++ c :: m = (l ++ [c]) ++ m by simp, ih _ (fun d hd => h d (List.mem_cons_of_mem _ hd)), sp_miss p l c (h c (List.mem_cons_self ..))]
    simp
theorem foldl_stp (p : UInt8 → Bool) (m : Bs) : ∀ (a : List Bs) (b : Bs), m.foldl (stp p) (a, b) = (a ++ (match sp p m with | ([], _x) => [] | (x :: y, _) => (b ++ x) :: y), match sp p m with | ([], x) => b ++ x | (_ :: _, x) => x) := by
  induction m using snoc_ind with
  | nil => intro a b; simp [sp]
  | snoc m c ih =>
    intro a b
    rw [List.foldl_append, ih, sp_snoc]
    simp only [List.foldl_cons, List.foldl_nil]
    rcases hs : sp p m with ⟨x, y⟩
    cases x with
    | nil =>
      simp only [stp]
      split <;> simp
    | cons x0 x =>
      simp only [stp]
      split <;> simp
/-- All pieces of two texts, one behind the other. -/
theorem sp_append (p : UInt8 → Bool) (l m : Bs) : sp p (l ++ m) = ((sp p l).1 ++ (match sp p m with | ([], _x) => [] | (x :: y, _) => ((sp p l).2 ++ x) :: y), match sp p m with | ([], x) => (sp p l).2 ++ x | (_ :: _, x) => x) := by
  unfold sp
  rw [List.foldl_append]
  exact foldl_stp p m _ _
theorem pieces_hit (p : UInt8 → Bool) (l m : Bs) (c : UInt8) (h : p c = true) : pieces p (l ++ c :: m) = pieces p l ++ pieces p m := by
  have e : sp p (c :: m) = ([] :: (sp p m).1, (sp p m).2) := by
    show m.foldl (stp p) (stp p ([], []) c) = _
    rw [stp, if_pos h, foldl_stp]
    rcases sp p m with ⟨x, y⟩
    cases x <;> simp
  unfold pieces
  rw [sp_append, e]
  simp
theorem pieces_none (p : UInt8 → Bool) (l : Bs) (h : ∀ c ∈ l, p c = false) : pieces p l = [l] := by
  have := sp_more p l [] h
  simp only [List.nil_append, sp_nil] at this
  simp [pieces, this]
theorem sp_clean (p : UInt8 → Bool) (l : Bs) : (∀ w ∈ (sp p l).1, ∀ c ∈ w, p c = false) ∧ ∀ c ∈ (sp p l).2, p c = false := by
  induction l using snoc_ind with
  | nil => simp [sp]
  | snoc l c ih =>
    cases h : p c with
    | true =>
      rw [sp_hit p l c h]
      refine ⟨fun w hw => ?_, by simp⟩
      rcases List.mem_append.1 hw with hw | hw
      · exact ih.1 w hw
      · simp at hw; subst hw; exact ih.2
    | false =>
      rw [sp_miss p l c h]
      refine ⟨ih.1, fun d hd => ?_⟩
      rcases List.mem_append.1 hd with hd | hd
      · exact ih.2 d hd
      · simp at hd; subst hd; exact h
theorem pieces_clean (p : UInt8 → Bool) (l : Bs) : ∀ w ∈ pieces p l, ∀ c ∈ w, p c = false := by
  intro w hw
  rcases List.mem_append.1 hw with hw | hw
  · exact (sp_clean p l).1 w hw
  · simp at hw; subst hw; exact (sp_clean p l).2
theorem sp_length (p : UInt8 → Bool) (l : Bs) : (sp p l).1.length ≤ l.length := by
  induction l using snoc_ind with
  | nil => simp [sp]
  | snoc l c ih =>
    cases h : p c with
    | true => rw [sp_hit p l c h]; simp; exact ih
    | false => rw [sp_miss p l c h]; simp; omega
theorem pieces_length (p : UInt8 → Bool) (l : Bs) : (pieces p l).length ≤ l.length + 1 := by
  have := sp_length p l
  simp [pieces]; omega
theorem sp_sum (p : UInt8 → Bool) (l : Bs) : ((sp p l).1.map List.length).sum + (sp p l).2.length ≤ l.length := by
  induction l using snoc_ind with
  | nil => simp [sp]
  | snoc l c ih =>
    cases h : p c with
    | true => rw [sp_hit p l c h]; simp; omega
    | false => rw [sp_miss p l c h]; simp; omega

def ne (l : List Bs) : List Bs := l.filter fun w => !w.isEmpty
theorem ne_append (a b : List Bs) : ne (a ++ b) = ne a ++ ne b := by simp [ne]
theorem ne_one (w : Bs) : ne [w] = if w = [] then [] else [w] := by cases w <;> simp [ne]
theorem ne_sum (l : List Bs) : ((ne l).map List.length).sum = (l.map List.length).sum := by
  induction l with
  | nil => rfl
  | cons a l ih => cases a <;> simp [ne] at ih ⊢ <;> omega
theorem ne_length (l : List Bs) : (ne l).length ≤ l.length := List.length_filter_le _ _
/-- A blank. -/
def bl (c : UInt8) : Bool := c == 32 || c == 9 || c == 10
def words (l : Bs) : List Bs := ne (pieces bl l)
theorem words_clean (l : Bs) : ∀ w ∈ words l, w ≠ [] ∧ ∀ c ∈ w, bl c = false := by
  intro w hw
  obtain ⟨h1, h2⟩ := List.mem_filter.1 hw
  exact ⟨by cases w <;> simp at h2 ⊢, pieces_clean bl l w h1⟩
theorem words_length (l : Bs) : (words l).length ≤ l.length + 1 := Nat.le_trans (ne_length _) (pieces_length _ _)
theorem words_sum (l : Bs) : ((words l).map List.length).sum ≤ l.length := by
  unfold words
  rw [ne_sum]
  have := sp_sum bl l
  simpa [pieces] using this
theorem words_hit (l m : Bs) (c : UInt8) (h : bl c = true) : words (l ++ c :: m) = words l ++ words m := by
  unfold words
  rw [pieces_hit bl l m c h, ne_append]
theorem words_one (w : Bs) (h : w ≠ []) (hc : ∀ c ∈ w, bl c = false) : words w = [w] := by
  unfold words
  rw [pieces_none bl w hc, ne_one, if_neg h]
theorem words_nil : words [] = [] := rfl

def join (l : List Bs) : Bs := Lib.join l [32]
theorem join_nil : join [] = [] := rfl
theorem join_one (w : Bs) : join [w] = w := Lib.join_one w [32]
theorem join_cons (w x : Bs) (l : List Bs) : join (w :: x :: l) = w ++ 32 :: join (x :: l) := by
  unfold join
  rw [Lib.join_cons, Lib.join_cons]
  simp [Lib.joinTail]
theorem join_snoc (l : List Bs) (w : Bs) (h : l ≠ []) : join (l ++ [w]) = join l ++ 32 :: w := by
  induction l with
  | nil => exact absurd rfl h
  | cons a l ih =>
    cases l with
    | nil => rw [List.singleton_append, join_cons, join_one, join_one]
    | cons b l => rw [List.cons_append, List.cons_append, join_cons, ← List.cons_append, ih (by simp), join_cons]; simp
/-- Words joined are words again. -/
theorem words_join (l : List Bs) (h : ∀ w ∈ l, w ≠ [] ∧ ∀ c ∈ w, bl c = false) : words (join l) = l := by
  induction l with
  | nil => rfl
  | cons a l ih =>
    have h1 := h a (List.mem_cons_self ..)
    cases l with
    | nil => rw [join_one, words_one a h1.1 h1.2]
    | cons b l =>
      rw [join_cons, words_hit _ _ _ (by decide), words_one a h1.1 h1.2, ih (fun w hw => h w (List.mem_cons_of_mem _ hw))]
      rfl
theorem join_length (l : List Bs) : (join l).length ≤ (l.map List.length).sum + l.length := by
  induction l with
  | nil => simp [join_nil]
  | cons a l ih =>
    cases l with
    | nil => rw [join_one]; simp
    | cons b l => rw [join_cons]; simp at ih ⊢; omega
end Tx
end Go.Proofs.YtiogmegdkfnkkaaGreatDoor
namespace Go.Proofs.YtiogmegdkfnkkaaGreatDoor
open Go.Lib
namespace Wr

abbrev Bs := List UInt8

/-- Reading a length: i signs are read, n is their number; the rest is still to be read. -/
def len : Bs → Nat → Nat → Except Nat (Nat × Bs)
  | [], _, _ => .error 6
  | c :: t, i, n =>
    if c.toNat = 58 ∧ 0 < i then .ok (n, t)
    else if c.toNat < 48 ∨ 57 < c.toNat ∨ (0 < i ∧ n = 0) then .error 5
    else if 999999 < n * 10 + (c.toNat - 48) then .error 3
    else len t (i + 1) (n * 10 + (c.toNat - 48))

/-- The text at the beginning, and what is behind it. -/
def get1 (t : Bs) (top : Nat) : Except Nat (Bs × Bs) :=
  match len t 0 0 with
  | .error e => .error e
  | .ok (n, r) => if top < n then .error 3 else if r.length < n + 1 then .error 6 else if r[n]? ≠ some 44 then .error 5 else .ok (r.take n, r.drop (n + 1))

def put (s : Bs) : Bs := decDigits s.length ++ 58 :: (s ++ [44])

theorem dig_snoc (n d : Nat) (hn : n ≠ 0) (hd : d < 10) : decDigits (n * 10 + d) = decDigits n ++ [UInt8.ofNat (48 + d)] := by
  rw [decDigits, dif_neg (by omega), show (n * 10 + d) / 10 = n by omega, show (n * 10 + d) % 10 = d by omega]
theorem byte_nat (c : UInt8) (n : Nat) (h : c.toNat = n) : c = UInt8.ofNat n := by subst h; simp
theorem dig_byte (d : Nat) (hd : d < 10) : (UInt8.ofNat (48 + d)).toNat = 48 + d := by simp; omega

theorem len_read : ∀ u : Nat, u ≤ 999999 → ∃ i, 0 < i ∧ ∀ t, len (decDigits u ++ t) 0 0 = len t i u := by
  intro u
  induction u using Nat.strongRecOn with
  | _ u ih =>
    intro hu
    by_cases h : u < 10
    · refine ⟨1, by omega, fun t => ?_⟩
      have hb := dig_byte u h
      rw [decDigits, dif_pos h]
      simp only [List.cons_append, List.nil_append, len]
      rw [if_neg (by omega), if_neg (by omega), if_neg (by omega), hb]
      congr 1
      omega
    · obtain ⟨i, hi, he⟩ := ih (u / 10) (by omega) (by omega)
      refine ⟨i + 1, by omega, fun t => ?_⟩
      have hb := dig_byte (u % 10) (by omega)
      rw [decDigits, dif_neg h, List.append_assoc, he]
      simp only [List.cons_append, List.nil_append, len]
      rw [if_neg (by omega), if_neg (by omega), if_neg (by omega), hb]
      congr 1
      omega

theorem get1_put (x r : Bs) (top : Nat) (h1 : x.length ≤ top) (h2 : x.length ≤ 999999) : get1 (put x ++ r) top = .ok (x, r) := by
  obtain ⟨i, hi, he⟩ := len_read x.length h2
  unfold get1 put
  rw [List.append_assoc, he]
  simp only [List.cons_append, len, List.append_assoc, List.nil_append]
  rw [if_pos (by exact ⟨rfl, hi⟩)]
  simp only
  rw [if_neg (by omega), if_neg (by simp), if_neg (by simp)]
  simp
theorem get1_most (x r : Bs) (top : Nat) (h1 : top < x.length) (h2 : x.length ≤ 999999) : get1 (put x ++ r) top = .error 3 := by
  obtain ⟨i, hi, he⟩ := len_read x.length h2
  unfold get1 put
  rw [List.append_assoc, he]
  simp only [List.cons_append, len, List.append_assoc, List.nil_append]
  rw [if_pos (by exact ⟨rfl, hi⟩)]
  simp only
  rw [if_pos h1]

theorem len_on : ∀ (t : Bs) (i n m : Nat) (r : Bs), 0 < i → n ≤ 999999 → len t i n = .ok (m, r) → decDigits n ++ t = decDigits m ++ 58 :: r ∧ m ≤ 999999 := by
  intro t
  induction t with
  | nil => intro i n m r _ _ h; simp [len] at h
  | cons c t ih =>
    intro i n m r hi hn h
    simp only [len] at h
    split at h
    · next hc =>
      injection h with h
      injection h with h1 h2
      subst h1 h2
      rw [byte_nat c 58 hc.1]
      exact ⟨rfl, hn⟩
    · split at h
      · cases h
      · split at h
        · cases h
        · obtain ⟨h1, h2⟩ := ih (i + 1) (n * 10 + (c.toNat - 48)) m r (by omega) (by omega) h
          refine ⟨?_, h2⟩
          rw [dig_snoc n _ (by omega) (by omega), show 48 + (c.toNat - 48) = c.toNat by omega] at h1
          simpa using h1
theorem len_inv (t : Bs) (m : Nat) (r : Bs) (h : len t 0 0 = .ok (m, r)) : t = decDigits m ++ 58 :: r ∧ m ≤ 999999 := by
  cases t with
  | nil => simp [len] at h
  | cons c t =>
    simp only [len] at h
    rw [if_neg (by omega)] at h
    split at h
    · cases h
    · split at h
      · cases h
      · obtain ⟨h1, h2⟩ := len_on t 1 _ m r (by omega) (by omega) h
        refine ⟨?_, h2⟩
        rw [decDigits, dif_pos (by omega), show 48 + (0 * 10 + (c.toNat - 48)) = c.toNat by omega] at h1
        simpa using h1
theorem get1_inv (t : Bs) (top : Nat) (x r : Bs) (h : get1 t top = .ok (x, r)) : t = put x ++ r ∧ x.length ≤ top ∧ x.length ≤ 999999 := by
  unfold get1 at h
  split at h
  · cases h
  · next n q hq =>
    obtain ⟨h1, h2⟩ := len_inv t n q hq
    split at h
    · cases h
    · split at h
      · cases h
      · split at h
        · cases h
        · next a b c =>
          injection h with h
          injection h with h3 h4
          have hn : n < q.length := by omega
          have hl : x.length = n := by rw [← h3]; simp; omega
          have hc : q[n] = 44 := by
            have := c
            rw [List.getElem?_eq_getElem hn] at this
            simpa using this
          refine ⟨?_, by omega, by omega⟩
          rw [h1, put, hl]
          have : q = x ++ 44 :: r := by
            rw [← h3, ← h4, ← hc, List.getElem_cons_drop, List.take_append_drop]
          rw [this]
          simp
theorem get1_short {t : Bs} {top : Nat} {x r : Bs} (h : get1 t top = .ok (x, r)) : r.length < t.length := by
  rw [(get1_inv t top x r h).1]
  simp [put]
  omega

theorem put_first (s t u : Bs) (hs : s.length ≤ 999999) (ht : t.length ≤ 999999) (h : put s ++ u = put t) : s = t := by
  have h1 := get1_put s u 999999 hs hs
  have h2 := get1_put t [] 999999 ht ht
  rw [h] at h1
  rw [List.append_nil, h1] at h2
  injection h2 with h2
  injection h2

theorem len_cut : ∀ u : Nat, u ≤ 999999 → ∀ k, len ((decDigits u).take k) 0 0 = .error 6 := by
  intro u
  induction u using Nat.strongRecOn with
  | _ u ih =>
    intro hu k
    by_cases hk : k < (decDigits u).length
    · by_cases h : u < 10
      · rw [decDigits, dif_pos h] at hk
        obtain rfl : k = 0 := by simpa using hk
        rw [List.take_zero]
        rfl
      · rw [decDigits, dif_neg h] at hk ⊢
        simp at hk
        rw [List.take_append_of_le_length (by omega)]
        exact ih (u / 10) (by omega) (by omega) k
    · rw [List.take_of_length_le (by omega)]
      obtain ⟨i, hi, he⟩ := len_read u hu
      have := he []
      rw [List.append_nil] at this
      rw [this]
      rfl
theorem get1_cut (s : Bs) (hs : s.length ≤ 999999) (k : Nat) (hk : k < (put s).length) : get1 ((put s).take k) 999999 = .error 6 := by
  have hp : (put s).length = (decDigits s.length).length + (s.length + 2) := by simp [put]
  unfold get1
  by_cases h : k ≤ (decDigits s.length).length
  · rw [put, List.take_append_of_le_length h, len_cut s.length hs k]
  · obtain ⟨i, hi, he⟩ := len_read s.length hs
    have e : (put s).take k = decDigits s.length ++ 58 :: ((s ++ [44]).take (k - (decDigits s.length).length - 1)) := by
      rw [put, List.take_append, List.take_of_length_le (by omega), show k - (decDigits s.length).length = (k - (decDigits s.length).length - 1) + 1 by omega, List.take_succ_cons]
      simp
    rw [e, he]
    simp only [len]
    rw [if_pos (by exact ⟨rfl, hi⟩)]
    simp only
    rw [if_neg (by omega), if_pos (by simp; omega)]

/-- All texts. -/
def all (t : Bs) : Except Nat (List Bs) :=
  if t = [] then .ok []
  else match _h : get1 t 999999 with
    | .error e => .error e
    | .ok (x, r) => match all r with
      | .error e => .error e
      | .ok l => .ok (x :: l)
termination_by t.length
decreasing_by exact get1_short _h
theorem all_nil : all [] = .ok [] := by rw [all, if_pos rfl]
theorem all_err (t : Bs) (e : Nat) (ht : t ≠ []) (h : get1 t 999999 = .error e) : all t = .error e := by
  rw [all, if_neg ht]
  split
  · next e' h' => rw [h] at h'; injection h' with h'; rw [h']
  · next x r h' => rw [h] at h'; cases h'
theorem all_ok (t x r : Bs) (h : get1 t 999999 = .ok (x, r)) : all t = match all r with | .error e => .error e | .ok l => .ok (x :: l) := by
  have ht : t ≠ [] := by
    rintro rfl
    simp [get1, len] at h
  rw [all, if_neg ht]
  split
  · next e' h' => rw [h] at h'; cases h'
  · next x' r' h' => rw [h] at h'; injection h' with h'; injection h' with h1 h2; subst h1 h2; rfl

def puts (l : List Bs) : Bs := (l.map put).flatten
theorem puts_snoc (l : List Bs) (x : Bs) : puts (l ++ [x]) = puts l ++ put x := by simp [puts]
theorem all_puts : ∀ l : List Bs, (∀ x ∈ l, x.length ≤ 999999) → all (puts l) = .ok l := by
  intro l
  induction l with
  | nil => intro _; exact all_nil
  | cons x l ih =>
    intro h
    have hx := h x (by simp)
    have h1 : get1 (put x ++ puts l) 999999 = .ok (x, puts l) := get1_put x (puts l) 999999 hx hx
    show all (puts (x :: l)) = _
    rw [show puts (x :: l) = put x ++ puts l by simp [puts], all_ok _ _ _ h1, ih (fun y hy => h y (by simp [hy]))]
theorem all_inv : ∀ (n : Nat) (t : Bs) (l : List Bs), t.length ≤ n → all t = .ok l → t = puts l ∧ ∀ x ∈ l, x.length ≤ 999999 := by
  intro n
  induction n with
  | zero =>
    intro t l h ha
    obtain rfl : t = [] := List.eq_nil_of_length_eq_zero (by omega)
    rw [all_nil] at ha
    injection ha with ha
    subst ha
    exact ⟨rfl, by simp⟩
  | succ n ih =>
    intro t l h ha
    by_cases ht : t = []
    · subst ht
      rw [all_nil] at ha
      injection ha with ha
      subst ha
      exact ⟨rfl, by simp⟩
    · match hg : get1 t 999999 with
      | .error e => rw [all_err t e ht hg] at ha; cases ha
      | .ok (x, r) =>
        rw [all_ok t x r hg] at ha
        obtain ⟨h1, h2, h3⟩ := get1_inv t _ x r hg
        have hs := get1_short hg
        match hr : all r with
        | .error e => rw [hr] at ha; cases ha
        | .ok m =>
          rw [hr] at ha
          injection ha with ha
          subst ha
          obtain ⟨h4, h5⟩ := ih r m (by omega) hr
          refine ⟨by rw [h1, h4]; simp [puts], ?_⟩
          intro y hy
          simp only [List.mem_cons] at hy
          rcases hy with rfl | hy
          · exact h3
          · exact h5 y hy
theorem put_len (x : Bs) : 3 ≤ (put x).length := by
  have := nDigits_pos x.length
  simp [put, decDigits_length]
  omega
end Wr
end Go.Proofs.YtiogmegdkfnkkaaGreatDoor
namespace Go.Proofs.YtiogmegdkfnkkaaGreatDoor
open Go.Lib
namespace Wr

abbrev less (a b : Bs) : Bool := Op.bytesLess a b
theorem less_nil (a : Bs) : less a [] = false := by cases a <;> rfl
theorem less_cons (a b : UInt8) (x y : Bs) : less (a :: x) (b :: y) = (decide (a < b) || (a == b && less x y)) := rfl
theorem less_self (a : Bs) : less a a = false := by
  induction a with
  | nil => rfl
  | cons c a ih => rw [less_cons, ih]; simp
theorem less_trans : ∀ a b c : Bs, less a b = true → less b c = true → less a c = true := by
  intro a
  induction a with
  | nil =>
    intro b c h1 h2
    cases c with
    | nil => rw [less_nil] at h2; exact h2
    | cons c z => rfl
  | cons a x ih =>
    intro b c h1 h2
    cases b with
    | nil => rw [less_nil] at h1; cases h1
    | cons b y =>
      cases c with
      | nil => rw [less_nil] at h2; cases h2
      | cons c z =>
        rw [less_cons] at h1 h2 ⊢
        simp only [Bool.or_eq_true, decide_eq_true_eq, Bool.and_eq_true, beq_iff_eq] at h1 h2 ⊢
        rcases h1 with h1 | ⟨rfl, h1⟩
        · rcases h2 with h2 | ⟨rfl, h2⟩
          · left
            rw [UInt8.lt_iff_toNat_lt] at h1 h2 ⊢
            omega
          · left; exact h1
        · rcases h2 with h2 | ⟨rfl, h2⟩
          · left; exact h2
          · right; exact ⟨rfl, ih y z h1 h2⟩
theorem less_all : ∀ a b : Bs, less a b = false → less b a = false → a = b := by
  intro a
  induction a with
  | nil =>
    intro b h1 h2
    cases b with
    | nil => rfl
    | cons b y => cases h1
  | cons a x ih =>
    intro b h1 h2
    cases b with
    | nil => cases h2
    | cons b y =>
      rw [less_cons] at h1 h2
      simp only [Bool.or_eq_false_iff, decide_eq_false_iff_not, Bool.and_eq_false_iff, beq_eq_false_iff_ne] at h1 h2
      have hab : a = b := by
        apply UInt8.toNat_inj.mp
        have h3 := h1.1
        have h4 := h2.1
        rw [UInt8.lt_iff_toNat_lt] at h3 h4
        omega
      subst hab
      rw [ih y (by rcases h1.2 with h | h; · exact absurd rfl h
                   · exact h) (by rcases h2.2 with h | h; · exact absurd rfl h
                                  · exact h)]

def sign (c : UInt8) : Bool := decide (97 ≤ c.toNat ∧ c.toNat ≤ 122) || decide (48 ≤ c.toNat ∧ c.toNat ≤ 57) || decide (c.toNat = 45) || decide (c.toNat = 46)
def nameOk (s : Bs) : Bool := s.all sign && decide (1 ≤ s.length ∧ s.length ≤ 24)
abbrev F := Bs × Bs
def fileOk (f : F) : Bool := nameOk f.1 && decide (f.2.length ≤ 4000)
def befOk (l : List F) (i : Nat) (n : Bs) : Bool := match i with
  | 0 => true
  | k + 1 => match l[k]? with
    | none => true
    | some g => less g.1 n
def stepOk (l : List F) (i : Nat) : Bool := match l[i]? with
  | none => true
  | some f => fileOk f && befOk l i f.1
def right (l : List F) : Bool := (List.range l.length).all (stepOk l) && decide (l.length ≤ 32)
structure Right (l : List F) : Prop where
  ok : ∀ f ∈ l, fileOk f = true
  up : l.Pairwise (fun f g => less f.1 g.1 = true)
  most : l.length ≤ 32
theorem right_no (l : List F) (k : Nat) (h : k < l.length) (hs : stepOk l k = false) : right l = false := by
  unfold right
  rw [Bool.and_eq_false_iff]
  left
  rw [List.all_eq_false]
  exact ⟨k, List.mem_range.mpr h, by rw [hs]; simp⟩
theorem right_end (l : List F) (h : ∀ j < l.length, stepOk l j = true) : right l = decide (l.length ≤ 32) := by
  unfold right
  rw [show (List.range l.length).all (stepOk l) = true from List.all_eq_true.mpr fun j hj => h j (List.mem_range.mp hj)]
  rfl
theorem stepOk_at (l : List F) (k : Nat) (h : k < l.length) : stepOk l k = (fileOk l[k] && befOk l k l[k].1) := by
  unfold stepOk
  rw [List.getElem?_eq_getElem h]
theorem befOk_at (l : List F) (k : Nat) (h : k < l.length) (n : Bs) : befOk l (k + 1) n = less l[k].1 n := by
  unfold befOk
  simp only [List.getElem?_eq_getElem h]
theorem adj_pair : ∀ l : List F, (∀ i, ∀ h : i + 1 < l.length, less l[i].1 l[i + 1].1 = true) → l.Pairwise (fun f g => less f.1 g.1 = true) := by
  intro l
  induction l with
  | nil => intro _; exact List.Pairwise.nil
  | cons a l ih =>
    intro h
    have hp := ih (fun i hi => h (i + 1) (by simp; omega))
    refine List.Pairwise.cons ?_ hp
    cases l with
    | nil => intro b hb; cases hb
    | cons c l =>
      have hac := h 0 (by simp)
      intro b hb
      simp only [List.mem_cons] at hb
      rcases hb with rfl | hb
      · exact hac
      · exact less_trans _ _ _ hac (List.rel_of_pairwise_cons hp hb)
theorem right_of {l : List F} (h : right l = true) : Right l := by
  unfold right at h
  rw [Bool.and_eq_true, List.all_eq_true, decide_eq_true_eq] at h
  have hs : ∀ j, ∀ hj : j < l.length, stepOk l j = true := fun j hj => h.1 j (List.mem_range.mpr hj)
  refine ⟨?_, adj_pair l ?_, h.2⟩
  · intro f hf
    obtain ⟨i, hi, rfl⟩ := List.mem_iff_getElem.mp hf
    have := hs i hi
    rw [stepOk_at l i hi, Bool.and_eq_true] at this
    exact this.1
  · intro i hi
    have := hs (i + 1) hi
    rw [stepOk_at l (i + 1) hi, Bool.and_eq_true] at this
    have h2 := this.2
    rw [befOk_at l i (by omega)] at h2
    exact h2
theorem Right.right {l : List F} (h : Right l) : Wr.right l = true := by
  rw [right_end l, decide_eq_true_eq]
  · exact h.most
  · intro j hj
    rw [stepOk_at l j hj, Bool.and_eq_true]
    refine ⟨h.ok _ (List.getElem_mem hj), ?_⟩
    cases j with
    | zero => rfl
    | succ k =>
      rw [befOk_at l k (by omega)]
      exact List.pairwise_iff_getElem.mp h.up k (k + 1) (by omega) hj (by omega)

def files (l : List F) : Bs := (l.map fun f => put f.1 ++ put f.2).flatten
def flat : List F → List Bs
  | [] => []
  | f :: l => f.1 :: f.2 :: flat l
def pairs : List Bs → List F
  | x :: y :: r => (x, y) :: pairs r
  | _ => []
theorem files_snoc (l : List F) (f : F) : files (l ++ [f]) = files l ++ (put f.1 ++ put f.2) := by simp [files]
theorem files_flat (l : List F) : files l = puts (flat l) := by
  induction l with
  | nil => rfl
  | cons f l ih =>
    have e1 : files (f :: l) = (put f.1 ++ put f.2) ++ files l := by simp [files]
    have e2 : puts (flat (f :: l)) = put f.1 ++ (put f.2 ++ puts (flat l)) := by simp [puts, flat]
    rw [e1, e2, ih, List.append_assoc]
theorem pairs_flat (l : List F) : pairs (flat l) = l := by
  induction l with
  | nil => rfl
  | cons f l ih => show (f.1, f.2) :: pairs (flat l) = _; rw [ih]
theorem flat_length (l : List F) : (flat l).length = 2 * l.length := by
  induction l with
  | nil => rfl
  | cons f l ih => simp [flat, ih]; omega
theorem flat_pairs : ∀ (n : Nat) (l : List Bs), l.length = 2 * n → flat (pairs l) = l ∧ (pairs l).length = n := by
  intro n
  induction n with
  | zero =>
    intro l h
    obtain rfl : l = [] := List.eq_nil_of_length_eq_zero (by omega)
    exact ⟨rfl, rfl⟩
  | succ n ih =>
    intro l h
    match l, h with
    | x :: y :: r, h =>
      obtain ⟨h1, h2⟩ := ih r (by simp at h; omega)
      exact ⟨by show x :: y :: flat (pairs r) = _; rw [h1], by show (pairs r).length + 1 = _; rw [h2]⟩
    | [x], h => simp at h; omega
    | [], h => simp at h
theorem flat_mem (l : List F) (x : Bs) (h : x ∈ flat l) : ∃ f ∈ l, x = f.1 ∨ x = f.2 := by
  induction l with
  | nil => cases h
  | cons f l ih =>
    simp only [flat, List.mem_cons] at h
    rcases h with rfl | rfl | h
    · exact ⟨f, by simp, .inl rfl⟩
    · exact ⟨f, by simp, .inr rfl⟩
    · obtain ⟨g, hg, h⟩ := ih h
      exact ⟨g, by simp [hg], h⟩
def parse (s : Bs) : Except Nat (List F) := match all s with
  | .error e => .error e
  | .ok l => if l.length % 2 = 1 then .error 5 else if right (pairs l) = true then .ok (pairs l) else .error 5
theorem nameOk_len {s : Bs} (h : nameOk s = true) : s.length ≤ 24 := by
  unfold nameOk at h
  rw [Bool.and_eq_true, decide_eq_true_eq] at h
  exact h.2.2
theorem fileOk_len {f : F} (h : fileOk f = true) : f.1.length ≤ 24 ∧ f.2.length ≤ 4000 := by
  unfold fileOk at h
  rw [Bool.and_eq_true, decide_eq_true_eq] at h
  exact ⟨nameOk_len h.1, h.2⟩
theorem parse_files (m : List F) (h : right m = true) : parse (files m) = .ok m := by
  have hr := right_of h
  unfold parse
  rw [files_flat, all_puts]
  · simp only
    rw [if_neg (by rw [flat_length]; omega), pairs_flat, if_pos h]
  · intro x hx
    obtain ⟨f, hf, hx⟩ := flat_mem m x hx
    have := fileOk_len (hr.ok f hf)
    rcases hx with rfl | rfl <;> omega
theorem files_parse (s : Bs) (m : List F) (h : parse s = .ok m) : files m = s ∧ right m = true := by
  unfold parse at h
  split at h
  · cases h
  · next l hl =>
    split at h
    · cases h
    · split at h
      · next h1 h2 =>
        injection h with h
        subst h
        obtain ⟨h3, _⟩ := all_inv s.length s l (Nat.le_refl _) hl
        refine ⟨?_, h2⟩
        rw [files_flat, (flat_pairs (l.length / 2) l (by omega)).1, ← h3]
      · cases h

def dropF (l : List F) (n : Bs) : List F := l.filter fun f => !(f.1 == n)
def ins (l : List F) (f : F) : List F := l.takeWhile (fun g => less g.1 f.1) ++ f :: l.dropWhile (fun g => less g.1 f.1)
def putF (l : List F) (f : F) : Except Nat (List F) :=
  if nameOk f.1 = false then .error 2
  else if 4000 < f.2.length ∨ (¬ (dropF l f.1).length < l.length ∧ 32 ≤ l.length) then .error 3
  else .ok (ins (dropF l f.1) f)
def mapS (b : Nat) (l : List F) (f : F) : List F := match putF l (f.1, f.2.take b) with
  | .error _ => l
  | .ok m => m
def mapF (l : List F) (n b : Nat) : List F := (l.take n).foldl (mapS b) []
theorem takeWhile_all {α : Type} (p : α → Bool) (l : List α) : ∀ a ∈ l.takeWhile p, p a = true := by
  induction l with
  | nil => intro a h; cases h
  | cons b l ih =>
    intro a h
    rw [List.takeWhile_cons] at h
    split at h
    · next hb =>
      simp only [List.mem_cons] at h
      rcases h with rfl | h
      · exact hb
      · exact ih a h
    · cases h
theorem dropWhile_first {α : Type} (p : α → Bool) (l : List α) (b : α) (r : List α) (h : l.dropWhile p = b :: r) : p b = false := by
  induction l with
  | nil => cases h
  | cons c l ih =>
    rw [List.dropWhile_cons] at h
    split at h
    · exact ih h
    · next hc =>
      injection h with h1 h2
      subst h1
      simpa using hc
theorem ins_right (l : List F) (f : F) (h : Right l) (hf : fileOk f = true) (hd : ∀ g ∈ l, g.1 ≠ f.1) (hl : l.length < 32) : Right (ins l f) := by
  have e := List.takeWhile_append_dropWhile (p := fun g : F => less g.1 f.1) (l := l)
  have hup := h.up
  have hlen : (ins l f).length = l.length + 1 := by
    have := congrArg List.length e
    simp only [List.length_append] at this
    simp only [ins, List.length_append, List.length_cons]
    omega
  rw [← e, List.pairwise_append] at hup
  refine ⟨?_, ?_, by omega⟩
  · intro g hg
    simp only [ins, List.mem_append, List.mem_cons] at hg
    rcases hg with hg | rfl | hg
    · exact h.ok g (by rw [← e]; exact List.mem_append_left _ hg)
    · exact hf
    · exact h.ok g (by rw [← e]; exact List.mem_append_right _ hg)
  · unfold ins
    rw [List.pairwise_append]
    have hb : ∀ g ∈ l.dropWhile (fun g : F => less g.1 f.1), less f.1 g.1 = true := by
      intro g hg
      match hq : l.dropWhile (fun g : F => less g.1 f.1) with
      | [] => rw [hq] at hg; cases hg
      | b :: r =>
        have hb := dropWhile_first _ l b r hq
        have hbm : b ∈ l := by rw [← e]; exact List.mem_append_right _ (by rw [hq]; simp)
        have hfb : less f.1 b.1 = true := by
          cases hc : less f.1 b.1 with
          | true => rfl
          | false => exact absurd (less_all _ _ hb hc) (hd b hbm)
        rw [hq] at hg
        simp only [List.mem_cons] at hg
        rcases hg with rfl | hg
        · exact hfb
        · have hp := hup.2.1
          rw [hq] at hp
          exact less_trans _ _ _ hfb (List.rel_of_pairwise_cons hp hg)
    refine ⟨hup.1, List.Pairwise.cons hb hup.2.1, ?_⟩
    intro a ha b hb2
    have h1 := takeWhile_all _ l a ha
    simp only [List.mem_cons] at hb2
    rcases hb2 with rfl | hb2
    · exact h1
    · exact less_trans _ _ _ h1 (hb b hb2)
theorem drop_right (l : List F) (n : Bs) (h : Right l) : Right (dropF l n) := by
  refine ⟨fun f hf => h.ok f (List.mem_filter.mp hf).1, h.up.filter _, Nat.le_trans (List.length_filter_le _ _) h.most⟩
theorem putF_right (l m : List F) (f : F) (h : Right l) (hp : putF l f = .ok m) : Right m := by
  unfold putF at hp
  split at hp
  · cases hp
  · next h1 =>
    split at hp
    · cases hp
    · next h2 =>
      injection hp with hp
      subst hp
      have hle : (dropF l f.1).length ≤ l.length := List.length_filter_le _ _
      have hm := h.most
      refine ins_right _ f (drop_right l f.1 h) ?_ ?_ (by omega)
      · unfold fileOk
        rw [Bool.and_eq_true, decide_eq_true_eq]
        exact ⟨by simpa using h1, by omega⟩
      · intro g hg
        have := (List.mem_filter.mp hg).2
        simpa using this
theorem mapF_right (l : List F) (n b : Nat) : Right (mapF l n b) := by
  have : ∀ (x m : List F), Right m → Right (x.foldl (mapS b) m) := by
    intro x
    induction x with
    | nil => intro m h; exact h
    | cons f x ih =>
      intro m h
      rw [List.foldl_cons]
      refine ih _ ?_
      unfold mapS
      split
      · exact h
      · next q hq => exact putF_right _ _ _ h hq
  exact this _ _ ⟨by simp, List.Pairwise.nil, by simp⟩
end Wr
end Go.Proofs.YtiogmegdkfnkkaaGreatDoor
namespace Go.Proofs.YtiogmegdkfnkkaaGreatDoor
open Go.RowKit Go.Lib Go.Sort Tx

def fsigns : Bs := [97, 98, 99, 100, 101, 102, 103, 104, 105, 106, 107, 108, 109, 110, 111, 112, 113, 114, 115, 116, 117, 118, 119, 120, 121, 122, 48, 49, 50, 51, 52, 53, 54, 55, 56, 57, 45, 46]
theorem index_sign (c : UInt8) : (decide (Lib.indexByte fsigns c < 0)) = !(Wr.sign c) := by
  have h : (List.range 256).all (fun n => (decide (Lib.indexByte fsigns (UInt8.ofNat n) < 0)) == !(Wr.sign (UInt8.ofNat n))) = true := by decide +kernel
  have := List.all_eq_true.1 h c.toNat (List.mem_range.2 c.toNat_lt)
  rw [beq_iff_eq] at this
  simpa using this
theorem all_take_succ (p : UInt8 → Bool) (s : Bs) (k : Nat) (h : k < s.length) (h1 : (s.take k).all p = true) (h2 : p s[k] = true) : (s.take (k + 1)).all p = true := by
  rw [List.take_succ_eq_append_getElem h, List.all_append, h1]
  simp [h2]
theorem all_no (p : UInt8 → Bool) (s : Bs) (k : Nat) (h : k < s.length) (h2 : p s[k] = false) : s.all p = false := by
  rw [List.all_eq_false]
  exact ⟨s[k], List.getElem_mem h, by simp [h2]⟩
theorem name_no (s : Bs) (k : Nat) (h : k < s.length) (h2 : Wr.sign s[k] = false) : Wr.nameOk s = false := by
  unfold Wr.nameOk
  rw [show (s : List UInt8).all Wr.sign = false from all_no Wr.sign s k h h2]
  rfl
theorem name_end (s : Bs) (h : (s.take s.length).all Wr.sign = true) : Wr.nameOk s = decide (1 ≤ s.length ∧ s.length ≤ 24) := by
  unfold Wr.nameOk
  rw [List.take_length] at h
  rw [show (s : List UInt8).all Wr.sign = true from h]
  rfl

set_option maxHeartbeats 4000000 in
theorem fName_any (s : Bs) (w : World) (hs : s.length ≤ maxLen) :
    Calls Tryz.prog 50 #[vs s] w fun e w' => e = .returned (.bool (Wr.nameOk s)) ∧ w = w' := by
  have hz := bs_size s
  simp only [maxLen] at hs
  go_enter Tryz.func50, Tryz.ntmps50
  go_wp2_with fail
  go_loop [6] (fun i => ∃ k : Nat, k ≤ s.length ∧ i = .int .i64 k ∧ (s.take k).all Wr.sign = true) (fun i => s.length - (RowKit.intOf i).toNat)
  case atStart => exact ⟨0, Nat.zero_le _, rfl, by simp⟩
  case round =>
    obtain ⟨k, hk, rfl, ha⟩ := hrel
    have HA := Lib.hid ha
    clear ha
    by_cases hlt : k < s.length
    · have hi : (k : Int) < ((bs s).size : Int) := by omega
      have hkb : k < (bs s).size := by omega
      have hgb : (bs s)[k]'hkb = s[k] := rfl
      have HS := Lib.hid (all_take_succ Wr.sign s k hlt HA.out)
      have HN := Lib.hid (name_no s k hlt)
      have hix := index_sign s[k]
      generalize s[k] = c at *
      have HX : Hid (Lib.indexByte fsigns ((c.toNat : Int).toNat.toUInt8) = Lib.indexByte fsigns c) := Lib.hid (by simp)
      generalize hr : Lib.indexByte fsigns c = r at *
      by_cases hsg : Wr.sign c = true
      · have hr0 : (0 : Int) ≤ r := by
          rw [hsg] at hix
          simpa using hix
        have HS2 := Lib.hid (HS.out hsg)
        clear hix hsg hr
        go_wp2_with (go_at_call 61; refine (Tryz.strings_IndexByte ⟨fsigns.toArray⟩ (c.toNat : Int) _).mono ?_; rintro e w' ⟨rfl, rfl⟩; rw [HX.out])
        go_round
        case rel => exact ⟨k + 1, by omega, by go_num, HS2.out⟩
        case measure => simp [RowKit.intOf]; omega
      · have hsg : Wr.sign c = false := by simpa using hsg
        have hr0 : r < 0 := by
          rw [hsg] at hix
          simpa using hix
        have HN2 := Lib.hid (HN.out hsg)
        clear hix hsg hr
        go_wp2_with (go_at_call 61; refine (Tryz.strings_IndexByte ⟨fsigns.toArray⟩ (c.toNat : Int) _).mono ?_; rintro e w' ⟨rfl, rfl⟩; rw [HX.out])
        go_ret
        exact ⟨by rw [HN2.out]; rfl, rfl⟩
    · obtain rfl : k = s.length := by omega
      have HE := Lib.hid (name_end s HA.out)
      by_cases h1 : 1 ≤ s.length
      · have h1' : (1 : Int) ≤ ((bs s).size : Int) := by omega
        by_cases h2 : s.length ≤ 24
        · have h2' : ((bs s).size : Int) ≤ 24 := by omega
          have h4' : decide ((s.length : Int) ≤ 24) = true := decide_eq_true (by omega)
          have HF : Hid (Wr.nameOk s = true) := Lib.hid (by rw [HE.out]; exact decide_eq_true ⟨h1, h2⟩)
          go_wp2_with fail
          go_ret
          exact ⟨by rw [HF.out]; rfl, rfl⟩
        · have h2' : (24 : Int) < ((bs s).size : Int) := by omega
          have h3' : decide (((bs s).size : Int) ≤ 24) = false := by simp; omega
          have h4' : decide ((s.length : Int) ≤ 24) = false := by simp; omega
          have HF : Hid (Wr.nameOk s = false) := Lib.hid (by rw [HE.out]; exact decide_eq_false (by omega))
          go_wp2_with fail
          go_ret
          exact ⟨by rw [HF.out]; first | rfl | (simp; omega), rfl⟩
      · have h1' : ((bs s).size : Int) < 1 := by omega
        have h3' : decide ((1 : Int) ≤ ((bs s).size : Int)) = false := by simp; omega
        have h4' : decide ((1 : Int) ≤ (s.length : Int)) = false := by simp; omega
        have HF : Hid (Wr.nameOk s = false) := Lib.hid (by rw [HE.out]; exact decide_eq_false (by omega))
        go_wp2_with fail
        go_ret
        exact ⟨by rw [HF.out]; first | rfl | (simp; omega), rfl⟩

set_option maxHeartbeats 8000000 in
theorem rName_any (s : Bs) (w : World) (hs : s.length ≤ maxLen) :
    Calls Tryz.prog 51 #[vs s] w fun e w' => e = .returned (.bool (Wr.nameOk s)) ∧ w = w' := by
  have hz := bs_size s
  simp only [maxLen] at hs
  go_enter Tryz.func51, Tryz.ntmps51
  go_wp2_with fail
  go_loop [3] (fun i => ∃ k : Nat, k ≤ s.length ∧ i = .int .i64 k ∧ (s.take k).all Wr.sign = true) (fun i => s.length - (RowKit.intOf i).toNat)
  case atStart => exact ⟨0, Nat.zero_le _, rfl, by simp⟩
  case round =>
    obtain ⟨k, hk, rfl, ha⟩ := hrel
    have HA := Lib.hid ha
    clear ha
    by_cases hlt : k < s.length
    · have hi : (k : Int) < ((bs s).size : Int) := by omega
      have hkb : k < (bs s).size := by omega
      have hgb : (bs s)[k]'hkb = s[k] := rfl
      have HS := Lib.hid (all_take_succ Wr.sign s k hlt HA.out)
      have HN := Lib.hid (name_no s k hlt)
      generalize s[k] = c at *
      have hcb : c.toNat < 256 := c.toNat_lt
      have hsg : Wr.sign c = (decide (97 ≤ c.toNat ∧ c.toNat ≤ 122) || decide (48 ≤ c.toNat ∧ c.toNat ≤ 57) || decide (c.toNat = 45) || decide (c.toNat = 46)) := rfl
      obtain ⟨x, hx⟩ : ∃ x, x = c.toNat := ⟨_, rfl⟩
      rw [← hx] at hsg hcb
      have hgx : ((c.toNat : Nat) : Int) = (x : Int) := by rw [hx]
      clear hx
      have hyes : Wr.sign c = true → Hid ((s.take (k + 1)).all Wr.sign = true) := fun h => Lib.hid (HS.out h)
      have hnot : Wr.sign c = false → Hid (Wr.nameOk s = false) := fun h => Lib.hid (HN.out h)
      clear HS HN
      by_cases h1 : 97 ≤ x ∧ x ≤ 122
      · have HS2 := hyes (by rw [hsg]; simp; omega)
        have i1 : (97 : Int) ≤ (x : Int) := by omega
        have i2 : (x : Int) ≤ 122 := by omega
        clear hsg hyes hnot h1
        go_wp2_with fail
        go_round
        case rel => exact ⟨k + 1, by omega, by go_num, HS2.out⟩
        case measure => simp [RowKit.intOf]; omega
      · have hcase : (122 < x) ∨ (x < 97 ∧ 57 < x) ∨ (48 ≤ x ∧ x ≤ 57) ∨ x = 47 ∨ x = 46 ∨ x = 45 ∨ x < 45 := by omega
        rcases hcase with h2 | h2 | h2 | h2 | h2 | h2 | h2
        · have HN2 := hnot (by rw [hsg]; simp; omega)
          have i1 : (97 : Int) ≤ (x : Int) := by omega
          have i2 : decide ((x : Int) ≤ 122) = false := decide_eq_false (by omega)
          have i3 : (48 : Int) ≤ (x : Int) := by omega
          have i4 : decide ((x : Int) ≤ 57) = false := decide_eq_false (by omega)
          have i5 : ((x : Int) == 45) = false := by simp; omega
          have i6 : ((x : Int) == 46) = false := by simp; omega
          clear hsg hyes hnot h1 h2
          go_wp2_with fail
          go_ret
          exact ⟨by rw [HN2.out]; rfl, rfl⟩
        · have HN2 := hnot (by rw [hsg]; simp; omega)
          have i1 : decide ((97 : Int) ≤ (x : Int)) = false := decide_eq_false (by omega)
          have i3 : (48 : Int) ≤ (x : Int) := by omega
          have i4 : decide ((x : Int) ≤ 57) = false := decide_eq_false (by omega)
          have i5 : ((x : Int) == 45) = false := by simp; omega
          have i6 : ((x : Int) == 46) = false := by simp; omega
          clear hsg hyes hnot h1 h2
          go_wp2_with fail
          go_ret
          exact ⟨by rw [HN2.out]; rfl, rfl⟩
        · have HS2 := hyes (by rw [hsg]; simp; omega)
          have i1 : decide ((97 : Int) ≤ (x : Int)) = false := decide_eq_false (by omega)
          have i3 : (48 : Int) ≤ (x : Int) := by omega
          have i4 : (x : Int) ≤ 57 := by omega
          clear hsg hyes hnot h1 h2
          go_wp2_with fail
          go_round
          case rel => exact ⟨k + 1, by omega, by go_num, HS2.out⟩
          case measure => simp [RowKit.intOf]; omega
        · have HN2 := hnot (by rw [hsg]; simp; omega)
          subst h2
          clear hsg hyes hnot h1
          go_wp2_with fail
          go_ret
          exact ⟨by rw [HN2.out]; rfl, rfl⟩
        · have HS2 := hyes (by rw [hsg]; simp; omega)
          subst h2
          clear hsg hyes hnot h1
          go_wp2_with fail
          go_round
          case rel => exact ⟨k + 1, by omega, by go_num, HS2.out⟩
          case measure => simp [RowKit.intOf]; omega
        · have HS2 := hyes (by rw [hsg]; simp; omega)
          subst h2
          clear hsg hyes hnot h1
          go_wp2_with fail
          go_round
          case rel => exact ⟨k + 1, by omega, by go_num, HS2.out⟩
          case measure => simp [RowKit.intOf]; omega
        · have HN2 := hnot (by rw [hsg]; simp; omega)
          have i1 : decide ((97 : Int) ≤ (x : Int)) = false := decide_eq_false (by omega)
          have i3 : decide ((48 : Int) ≤ (x : Int)) = false := decide_eq_false (by omega)
          have i5 : ((x : Int) == 45) = false := by simp; omega
          have i6 : ((x : Int) == 46) = false := by simp; omega
          clear hsg hyes hnot h1 h2
          go_wp2_with fail
          go_ret
          exact ⟨by rw [HN2.out]; rfl, rfl⟩
    · obtain rfl : k = s.length := by omega
      have HE := Lib.hid (name_end s HA.out)
      by_cases h1 : 1 ≤ s.length
      · have h1' : (1 : Int) ≤ ((bs s).size : Int) := by omega
        by_cases h2 : s.length ≤ 24
        · have h2' : ((bs s).size : Int) ≤ 24 := by omega
          have h4' : decide ((s.length : Int) ≤ 24) = true := decide_eq_true (by omega)
          have HF : Hid (Wr.nameOk s = true) := Lib.hid (by rw [HE.out]; exact decide_eq_true ⟨h1, h2⟩)
          go_wp2_with fail
          go_ret
          exact ⟨by rw [HF.out]; rfl, rfl⟩
        · have h2' : (24 : Int) < ((bs s).size : Int) := by omega
          have h3' : decide (((bs s).size : Int) ≤ 24) = false := by simp; omega
          have h4' : decide ((s.length : Int) ≤ 24) = false := by simp; omega
          have HF : Hid (Wr.nameOk s = false) := Lib.hid (by rw [HE.out]; exact decide_eq_false (by omega))
          go_wp2_with fail
          go_ret
          exact ⟨by rw [HF.out]; first | rfl | (simp; omega), rfl⟩
      · have h1' : ((bs s).size : Int) < 1 := by omega
        have h3' : decide ((1 : Int) ≤ ((bs s).size : Int)) = false := by simp; omega
        have h4' : decide ((1 : Int) ≤ (s.length : Int)) = false := by simp; omega
        have HF : Hid (Wr.nameOk s = false) := Lib.hid (by rw [HE.out]; exact decide_eq_false (by omega))
        go_wp2_with fail
        go_ret
        exact ⟨by rw [HF.out]; first | rfl | (simp; omega), rfl⟩
end Go.Proofs.YtiogmegdkfnkkaaGreatDoor
namespace Go.Proofs.YtiogmegdkfnkkaaGreatDoor
open Go.RowKit

theorem row_of_in {k : IntKind} {w : World} {a : Option Addr} {len cap : Nat} {zs : List Int}
    (h : (a = none ∧ len = 0 ∧ cap = 0 ∧ zs = []) ∨
      ∃ x, a = some x ∧ len ≤ cap ∧ cap ≤ maxLen ∧ zs.length = cap ∧ (∀ i, i < zs.length → w.cell? (x.add i) = some (.int k (zs.getD i 0))) ∧ ∀ n ∈ zs, (Lit.int k n).wf = true) :
    Row (Value.int k) w w.heap.size (.slice a len cap) (zs.take len) := by
  rcases h with ⟨rfl, rfl, rfl, rfl⟩ | ⟨x, rfl, hl, hm, hz, hc, _⟩
  · exact Row.nil _ _ _ _ _ (by decide)
  · by_cases h0 : len = 0
    · subst h0
      simp only [List.take_zero]
      exact Row.nil _ _ _ _ _ hm
    · obtain ⟨b, off, spot⟩ := x
      have h1 := hc 0 (by omega)
      have hspot : spot = none := by simpa [Addr.add] using World.cell?_spot h1
      subst hspot
      have hb : b < w.heap.size := World.block_lt_of_cell? w ⟨b, off, none⟩ (by simpa [Addr.add] using h1)
      have hlen : (zs.take len).length = len := by simp; omega
      refine ⟨cap, by omega, hm, .inr ⟨b, off, by rw [hlen], hb, fun j hj => ?_⟩⟩
      have := hc j (by simp at hj; omega)
      rw [Addr.add_lit] at this
      rw [this]
      have hj2 : j < zs.length := by simp at hj; omega
      simp [hj2]
theorem row_in_wf {k : IntKind} {w : World} {a : Option Addr} {len cap : Nat} {zs : List Int}
    (h : (a = none ∧ len = 0 ∧ cap = 0 ∧ zs = []) ∨
      ∃ x, a = some x ∧ len ≤ cap ∧ cap ≤ maxLen ∧ zs.length = cap ∧ (∀ i, i < zs.length → w.cell? (x.add i) = some (.int k (zs.getD i 0))) ∧ ∀ n ∈ zs, (Lit.int k n).wf = true) :
    ∀ n ∈ zs.take len, (Lit.int k n).wf = true := by
  rcases h with ⟨_, _, _, rfl⟩ | ⟨_, _, _, _, _, _, hw⟩
  · intro n hn; simp at hn
  · exact fun n hn => hw n (List.mem_of_mem_take hn)
end Go.Proofs.YtiogmegdkfnkkaaGreatDoor
