/- Small words and lemmas of my own, used by all proofs of this seat: how a slice reads as a list, returns, worlds. · From what a row's frame tells of an argument to what the walks ask. · Slices whose elements are n cells each, as they come in. · Texts as lists of bytes: pieces between marks, words, joining. Plain Lean. · The plain law of texts with their length ahead: to read a length, a text, all texts; what was put is got, and nothing else is. · wire.number: errors.As at an error of wire's own, which wraps an api.Errno, and at no error. · errors.As at an error of wire's own; wire.number. -/
import Derived.WalkKit
import Derived.WalkMore
import Derived.WalkSpells
import Derived.WalkLawsBesides
import Derived.Lib.Hide
import Derived.Handy
import Derived.Deep.LoopGhost
import Derived.Deep.DeepCutAuto
import Derived.Deep.CutBlock
import Derived.Deep.QuietTactic
import Derived.BigQuiet
import Derived.Deep.Draws
import Derived.Deep.AppendLies
import Derived.ShutString
import Derived.Lib.QuietBelow
import Derived.Deep.RegionWith
import Derived.Deep.RegionHeld3
import Derived.Deep.RegionLaw
import Derived.Laws.CopyOwn
import Derived.StillTailTactics
import Derived.Laws.AppendOwnNone
import Derived.ProofKit
import Derived.OpenShut
import Derived.Lib.Join
import Derived.Lib.ItoaNum
import Derived.Test.YtkoegbjnhoecoaaGreatDoorRows
import Derived.LaidEql
import Derived.Stop.Asserts
import Derived.RowKitTokens
namespace Go.Proofs.YtkoegbjnhoecoaaGreatDoor
open Go.RowKit

theorem ret_int {k : IntKind} {a b : Int} (h : a = b) : Ending.returned (.int k a) = .returned (.int k b) := by rw [h]
theorem ret_nat {k : IntKind} {a b : Nat} (h : a = b) : Ending.returned (.int k (a : Int)) = .returned (.int k (b : Int)) := by rw [h]
theorem ret_bool {a b : Bool} (h : a = b) : Ending.returned (.bool a) = .returned (.bool b) := by rw [h]

/-- Block number B and all below it are as they were, and draws besides. -/
theorem below_drewN {B : Nat} {a w : World} (h : Below B a w) (n : Nat) : Below B a (w.drewN n) := ⟨h.os, h.tape, h.output, h.size, h.block⟩
theorem below_of_drewN {B : Nat} {a : World} (n : Nat) : Below B a (a.drewN n) := below_drewN (Below.refl _ _) n

theorem drewN_ex0 (w : World) : ∃ n, w = w.drewN n := ⟨0, rfl⟩
theorem drewN_ex1 (w : World) (a : Nat) : ∃ n, w.drewN a = w.drewN n := ⟨a, rfl⟩
theorem drewN_ex2 (w : World) (a b : Nat) : ∃ n, (w.drewN a).drewN b = w.drewN n := ⟨a + b, World.drewN_drewN _ _ _⟩

/-- In every world of the class of a region whose callees may lay blocks. -/
theorem regrown_below (w : World) (p : Regrown) : Below w.heap.size w (Go.Sort.grow (redrawn w p.d) p.os) := below_regrown w p.d p.os
theorem calls_regrown {P : Program} {f : FuncId} {args : Array Value} {w : World} {p : Regrown} {v : Value}
    (h : Calls P f args (Go.Sort.grow (redrawn w p.d) p.os) fun e w' => e = .returned v ∧ Below (Go.Sort.grow (redrawn w p.d) p.os).heap.size (Go.Sort.grow (redrawn w p.d) p.os) w') :
    Calls P f args (Go.Sort.grow (redrawn w p.d) p.os) fun e w'' => e = .returned v ∧ ∃ p : Regrown, w'' = Go.Sort.grow (redrawn w p.d) p.os := Calls.regrown_of h

/-- A callee that leaves the world as it is, met in a quiet region. -/
theorem quiet_eq {P : Program} {f : FuncId} {args : Array Value} {w : World} {n : Nat} {v : Value}
    (h : Calls P f args (w.drewN n) fun e w' => e = .returned v ∧ w.drewN n = w') : Calls P f args (w.drewN n) fun e w'' => e = .returned v ∧ ∃ m, w'' = w.drewN m :=
  h.mono fun _ _ ⟨he, hm⟩ => ⟨he, n, hm.symm⟩
theorem quiet_eq2 {P : Program} {f : FuncId} {args : Array Value} {w : World} {a n : Nat} {v : Value}
    (h : Calls P f args (w.drewN (a + n)) fun e w' => e = .returned v ∧ w.drewN (a + n) = w') : Calls P f args (w.drewN (a + n)) fun e w'' => e = .returned v ∧ ∃ m, w'' = w.drewN (a + m) :=
  h.mono fun _ _ ⟨he, hm⟩ => ⟨he, n, hm.symm⟩

/-- The lexical walk of a quiet region, at the class of the one world w, is a still walk: so its cheap steps serve ahead of a tail that writes. -/
theorem still_of_quiet {P : Program} {o : Oper} {a : Act} {w : World} {K : Act → Prop} (h : o.quiet P a (fun w' => w' = w) K) : o.still P a w K := by
  obtain ⟨v, h1, h2⟩ := h
  have h3 := h1 w rfl
  unfold Oper.quietAt at h3
  unfold Oper.still
  generalize (execOp a.eval o).run P w = r at *
  cases r with
  | ok n w' =>
    cases n <;> simp only [Oper.quietUpon] at h3 <;> simp only [Oper.stillUpon]
    case value u => exact ⟨h3.1, h3.2 ▸ h2⟩
    case skip => exact ⟨h3.1, h3.2 ▸ h2⟩
    case enter f args => exact ⟨h3.1, v, h3.2, h2⟩
  | halt x w' => simp only [Oper.quietUpon] at h3
theorem wpStill_of_quiet {P : Program} {ops : Array Oper} {w : World} {Q : Act → Prop} : ∀ (l : List Oper) (a : Act), wpQuiet P ops (fun w' => w' = w) Q l a → wpStill P ops w Q l a := by
  intro l
  induction l with
  | nil => intro a h; exact h
  | cons o l ih =>
    intro a h
    unfold wpQuiet at h
    unfold wpStill
    split
    · rename_i hw
      rw [if_pos hw] at h
      exact Oper.still_mono (fun a' h' => ih a' h') (still_of_quiet h)
    · rename_i hw
      rw [if_neg hw] at h
      exact ih _ h

/-- A region that draws its order: n operations that only read or call quietly, then a tail in one order. -/
theorem wp_region_quiet_tail {P : Program} {id : Nat} {Q : Exit → Act → World → Prop} {a : Act} {w : World} {l : List Oper} (n : Nat) (hm : P.follows .mixedOrders = true) (hB : Region.lexTailB .any l.toArray n = true)
    (h : wpQuiet P l.toArray (fun w' => w' = w.drew) (fun a' => wpList P l.toArray Q (l.drop n) a' w.drew) (l.take n) a) : (Code.region id l.toArray true).wp P Q a w :=
  wp_region_still_tail n hm hB (wpStill_of_quiet _ _ h)

/-- What a value of type 'slice' says: it reads as the list xs (an element is one cell, written by f), below block B. -/
def Row {α : Type} (f : α → Value) (w : World) (B : Nat) (v : Value) (xs : List α) : Prop :=
  ∃ cap, xs.length ≤ cap ∧ cap ≤ maxLen ∧
    ((xs = [] ∧ ∃ A, v = .slice A 0 cap) ∨
     (∃ b off, v = .slice (some ⟨b, off, none⟩) xs.length cap ∧ b < B ∧ ∀ j (h : j < xs.length), w.cell? ⟨b, off + j, none⟩ = some (f xs[j])))

abbrev Ints := Row (Value.int .i64)

section
variable {α : Type} {f : α → Value} {w w' : World} {B B' : Nat} {v : Value} {xs : List α}
theorem Row.keep (h : Row f w B v xs) (hk : ∀ p : Addr, p.block < B → w'.cell? p = w.cell? p) : Row f w' B v xs := by
  obtain ⟨cap, h1, h2, h3⟩ := h
  refine ⟨cap, h1, h2, ?_⟩
  rcases h3 with h3 | ⟨b, off, hv, hb, hc⟩
  · exact .inl h3
  · exact .inr ⟨b, off, hv, hb, fun j hj => (hk _ hb).trans (hc j hj)⟩
theorem Row.more (h : Row f w B v xs) (hB : B ≤ B') : Row f w B' v xs := by
  obtain ⟨cap, h1, h2, h3⟩ := h
  refine ⟨cap, h1, h2, ?_⟩
  rcases h3 with h3 | ⟨b, off, hv, hb, hc⟩
  · exact .inl h3
  · exact .inr ⟨b, off, hv, by omega, hc⟩
theorem Row.below {C : Nat} (h : Row f w B v xs) (hb : Below C w w') (hB : B ≤ C) : Row f w' B v xs := h.keep fun _ hp => hb.cell (Nat.lt_of_lt_of_le hp hB)
theorem Row.drewN (h : Row f w B v xs) (n : Nat) : Row f (w.drewN n) B v xs := h
theorem Row.nil (f : α → Value) (w : World) (B : Nat) (A : Option Addr) (cap : Nat) (h : cap ≤ maxLen) : Row f w B (.slice A 0 cap) ([] : List α) := ⟨cap, by simp, h, .inl ⟨rfl, A, rfl⟩⟩
/-- Its shape, whatever the length; its cells, where there are any. -/
theorem Row.shape (h : Row f w B v xs) : ∃ A cap, v = .slice A xs.length cap ∧ xs.length ≤ cap ∧ cap ≤ 9223372036854775807 ∧
    (xs ≠ [] → ∃ b off, A = some ⟨b, off, none⟩ ∧ b < B ∧ ∀ j (h : j < xs.length), w.cell? ⟨b, off + j, none⟩ = some (f xs[j])) := by
  obtain ⟨cap, h1, h2, h3⟩ := h
  have h2' : cap ≤ 9223372036854775807 := by simpa [maxLen] using h2
  rcases h3 with ⟨rfl, A, rfl⟩ | ⟨b, off, rfl, hb, hc⟩
  · exact ⟨A, cap, rfl, by simp, h2', fun h => absurd rfl h⟩
  · exact ⟨_, cap, rfl, h1, h2', fun _ => ⟨b, off, rfl, hb, hc⟩⟩
/-- A row that the call itself owns reads as its list. -/
theorem Row.own {base : Nat} {e : TypeId} {n : Nat} (h : w.ownsRow base e 1 v n (xs.map f)) : Row f w w.heap.size v xs := by
  have hl : xs.length = n := by have := h.1; simpa using this
  rcases h.2 with ⟨rfl, hn⟩ | ⟨g, cap, cur, rfl, hb, hg, hnc, hcm, hcs, htake⟩
  · have : xs = [] := List.eq_nil_of_length_eq_zero (by omega)
    subst this
    exact Row.nil _ _ _ _ _ (by simp)
  · refine ⟨cap, by omega, hcm, .inr ⟨g, 0, by rw [hl], (Array.getElem?_eq_some_iff.1 hg).1, fun j hj => ?_⟩⟩
    have := h.cellAt j (by omega)
    simp only [Nat.zero_add]
    rw [this]
    simp [hj]
theorem Row.own_lt {base : Nat} {e : TypeId} {n : Nat} (h : w.ownsRow base e 1 v n (xs.map f)) (hB : w.heap.size ≤ B) : Row f w B v xs := (Row.own h).more hB
end

/-- The address of a piece, behind a name that the walk does not open. -/
def slAddr (a : Option Addr) (l m s : Nat) : Option Addr := if m = l then a else a.map (·.add (l * s))
theorem sliced_sl (a : Option Addr) (l h m s : Nat) : sliced a l h m s = .slice (slAddr a l m s) (h - l) (m - l) := rfl
attribute [go_sem ↓ high] sliced_sl

/-- A piece 'v[n:]' of a row. -/
theorem row_cut {α : Type} {f : α → Value} {w : World} {B n : Nat} {v : Value} {xs : List α} (h : Row f w B v xs) (hn : n ≤ xs.length) :
    ∀ A m c, v = .slice A m c → Row f w B (.slice (slAddr A n c 1) (m - n) (c - n)) (xs.drop n) := by
  intro A m c hv
  obtain ⟨cap, h1, h2, h3⟩ := h
  rcases h3 with ⟨rfl, A', rfl⟩ | ⟨b, off, rfl, hb, hc⟩
  · cases hv
    simp only [List.length_nil, Nat.le_zero_eq] at hn
    subst hn
    exact ⟨c, by simp, by simpa using h2, .inl ⟨by simp, _, rfl⟩⟩
  · cases hv
    by_cases hc0 : c = n
    · have : n = xs.length := by omega
      subst this
      exact ⟨c - xs.length, by simp, by omega, .inl ⟨by simp, some ⟨b, off, none⟩, by simp [slAddr, hc0]⟩⟩
    · refine ⟨c - n, by simp; omega, by omega, .inr ⟨b, off + n, ?_, hb, fun j hj => ?_⟩⟩
      · simp [slAddr, hc0, Addr.add_lit]
      · have := hc (n + j) (by simp at hj; omega)
        rw [List.getElem_drop, Nat.add_assoc]
        exact this

/-- A piece 'v[n:m]' of a row. -/
theorem row_cut2 {α : Type} {f : α → Value} {w : World} {B n m : Nat} {v : Value} {xs : List α} (h : Row f w B v xs) (hn : n ≤ m) (hm : m ≤ xs.length) :
    ∀ A l c, v = .slice A l c → Row f w B (.slice (slAddr A n c 1) (m - n) (c - n)) ((xs.drop n).take (m - n)) := by
  intro A l c hv
  obtain ⟨cap, h1, h2, h3⟩ := row_cut h (Nat.le_trans hn hm) A l c hv
  obtain ⟨A', c', h4, h5, _, h6⟩ := h.shape
  rw [hv] at h4
  injection h4 with e1 e2 e3
  rcases h3 with ⟨he, A'', h4⟩ | ⟨b, off, h4, hb, hc⟩
  · have hl : m - n = 0 := by
      have : xs.length ≤ n := by simpa using he
      omega
    rw [hl, he]
    exact ⟨cap, by simp, h2, .inl ⟨by simp, _, by injection h4 with e1 e2 e3; rw [e1, e3]⟩⟩
  · simp only [List.length_drop] at h4
    injection h4 with e1 e2 e3
    have hlen : ((xs.drop n).take (m - n)).length = m - n := by simp; omega
    refine ⟨cap, by simp at h1 ⊢; omega, h2, .inr ⟨b, off, by rw [e1, e3, hlen], hb, fun j hj => ?_⟩⟩
    rw [List.getElem_take]
    exact hc j (by simp at hj ⊢; omega)

theorem Row.mk_at {α : Type} {f : α → Value} {w : World} {B b off cap : Nat} {xs : List α} (h1 : xs.length ≤ cap) (h2 : cap ≤ maxLen) (hb : b < B)
    (hc : ∀ j (h : j < xs.length), w.cell? ⟨b, off + j, none⟩ = some (f xs[j])) : Row f w B (.slice (some ⟨b, off, none⟩) xs.length cap) xs :=
  ⟨cap, h1, h2, .inr ⟨b, off, rfl, hb, hc⟩⟩
/-- A row that was laid just now, all its elements written out. -/
theorem row_lit {α : Type} (f : α → Value) (xs : List α) (w : World) (e : TypeId) (hl : xs.length ≤ maxLen) :
    Row f (w.alloc (.cells (xs.map f).toArray e)) (w.heap.size + 1) (.slice (some ⟨w.heap.size, 0, none⟩) xs.length xs.length) xs := by
  refine Row.mk_at (Nat.le_refl _) hl (Nat.lt_succ_self _) (fun j hj => ?_)
  rw [Nat.zero_add, cell_of_row _ w.heap.size j _ e (0, 0) (heap_alloc_new w _)]
  simp [hj]
theorem Row.alloc {α : Type} {f : α → Value} {w : World} {B : Nat} {v : Value} {xs : List α} (h : Row f w B v xs) (hB : B ≤ w.heap.size) (o : Obj) : Row f (w.alloc o) B v xs :=
  h.below ((Below.refl B w).alloc hB o) (Nat.le_refl _)
theorem Row.step {α : Type} {f : α → Value} {w w' : World} {v : Value} {xs : List α} (h : Row f w w.heap.size v xs) (hb : Below w.heap.size w w') : Row f w' w'.heap.size v xs :=
  (h.below hb (Nat.le_refl _)).more hb.size
theorem Row.step_lit {α : Type} {f : α → Value} {w w' : World} {v : Value} {xs : List α} {o : Obj} (h : Row f w w.heap.size v xs) (hb : Below (w.alloc o).heap.size (w.alloc o) w') : Row f w' w'.heap.size v xs :=
  ((h.alloc (Nat.le_refl _) o).more (by simp)).step hb
theorem Row.step_lit2 {α : Type} {f : α → Value} {w w' : World} {v : Value} {xs : List α} {o o' : Obj} (h : Row f w w.heap.size v xs) (hb : Below ((w.alloc o).alloc o').heap.size ((w.alloc o).alloc o') w') : Row f w' w'.heap.size v xs :=
  (((h.alloc (Nat.le_refl _) o).more (by simp)).alloc (Nat.le_refl _) o').more (by simp) |>.step hb
theorem row_lit2a {α : Type} (f : α → Value) (xs : List α) (w : World) (e : TypeId) (o : Obj) (hl : xs.length ≤ maxLen) :
    Row f ((w.alloc (.cells (xs.map f).toArray e)).alloc o) (w.heap.size + 2) (.slice (some ⟨w.heap.size, 0, none⟩) xs.length xs.length) xs :=
  ((row_lit f xs w e hl).alloc (by simp) o).more (by omega)
theorem row_lit2b {α : Type} (f : α → Value) (xs : List α) (w : World) (e : TypeId) (o : Obj) (hl : xs.length ≤ maxLen) :
    Row f ((w.alloc o).alloc (.cells (xs.map f).toArray e)) (w.heap.size + 2) (.slice (some ⟨w.heap.size + 1, 0, none⟩) xs.length xs.length) xs := by
  have := row_lit f xs (w.alloc o) e hl
  simpa using this
theorem below_lit2 {B : Nat} {a w : World} (h : Below B a w) (hB : B ≤ w.heap.size) (o o' : Obj) {w' : World} {C : Nat} (h' : Below C ((w.alloc o).alloc o') w') (hC : B ≤ C) : Below B a w' :=
  ((h.alloc hB o).alloc (by simp; omega) o').trans (h'.mono hC)
theorem below_lit {B : Nat} {a w : World} (h : Below B a w) (hB : B ≤ w.heap.size) (o : Obj) {w' : World} {C : Nat} (h' : Below C (w.alloc o) w') (hC : B ≤ C) : Below B a w' :=
  (h.alloc hB o).trans (h'.mono hC)

/-- What is owned stays owned where nothing old has turned. -/
theorem own_below {w w' : World} {base : Nat} {e : TypeId} {size : Nat} {v : Value} {n : Nat} {xs : List Value} (h : w.ownsRow base e size v n xs) (hb : Below w.heap.size w w') : w'.ownsRow base e size v n xs := by
  refine ⟨h.1, ?_⟩
  rcases h.2 with h2 | ⟨g, cap, cur, hv, hbg, hg, rest⟩
  · exact .inl h2
  · exact .inr ⟨g, cap, cur, hv, hbg, (hb.block g (Array.getElem?_eq_some_iff.1 hg).1).trans hg, rest⟩

/-- 'out = append(out, x)', out nil or the call's own, x one cell that was just laid in a block of its own. -/
theorem wpList_app1 {P : Program} {w0 : World} {ops : Array Oper} {rest : List Oper} {o : Oper} {a : Act} {Q : Exit → Act → World → Prop} (hgd : o.guard = none) (s x : Operand) (t : TypeId)
    (ho : o.op = .call { callee := .builtin .append, args := #[s, x], argTypes := #[t, t] })
    (base : Nat) (e : TypeId) (i : TypeInfo) (z : Value) (bytes : Nat) (ht : P.underlying t = some (.slice e)) (hi : P.info? e = some i) (hz : i.zero = some z)
    (hsize : i.size = 1) (hby : i.bytes = bytes) (hzs : z.cells.size = 1)
    (v : Value) (n : Nat) (xs : List Value) (u : Value) (hu : u.oneCell' = true) (hs : a.eval s = v) (hx : a.eval x = .slice (some ⟨w0.heap.size, 0, none⟩) 1 1)
    (hown : w0.ownsRow base e 1 v n xs) (hb : base ≤ w0.heap.size)
    (h63 : n + 1 ≤ maxLen) (hbytes : (n + 1) * bytes ≤ 140737488355328)
    (h : ∀ v' w', w'.ownsRow base e 1 v' (n + 1) (xs ++ [u]) → Below base w0 w' → w0.grownBy w' v.ownBlock → wpList P ops Q rest (a.put o.dst v') w') :
    wpList P ops Q (o :: rest) a (w0.alloc (.cells #[u] e)) := by
  refine wpList_append_own _ hgd s x t ho base e i z 1 bytes ht hi hz hsize hby hzs (by decide) v n xs hs (hown.alloc _) ⟨w0.heap.size, 0, none⟩ 1 1 [u] hx rfl ?_ ?_ h63 hbytes (by simp; omega) ?_
  · intro j y hj
    match j, hj with
    | 0, hj => simp at hj; subst hj; simp [Addr.add]
  · intro y hy; simp at hy; subst hy; exact hu
  · intro v' w' h1 h2 _
    have hg : w0.grownBy w' v.ownBlock := ⟨h2.os, h2.tape, h2.output, Nat.le_trans (by simp) h2.size, fun k hk hne => (h2.block k (by simp; omega) hne).trans (Below.heap_alloc _ _ _ hk)⟩
    exact h v' w' h1 ((Below.refl _ _).grown hg hb (fun k hk => (hown.lt k hk).1)) hg

end Go.Proofs.YtkoegbjnhoecoaaGreatDoor
namespace Go.Proofs.YtkoegbjnhoecoaaGreatDoor
open Go.RowKit

theorem row_of_in {k : IntKind} {w : World} {a : Option Addr} {len cap : Nat} {zs : List Int}
    (h : (a = none ∧ len = 0 ∧ cap = 0 ∧ zs = []) ∨
      ∃ x, a = some x ∧ len ≤ cap ∧ cap ≤ maxLen ∧ zs.length = cap ∧ (∀ i, i < zs.length → w.cell? (x.add i) = some (.int k (zs.getD i 0))) ∧ ∀ n ∈ zs, (Lit.int k n).wf = true) :
    Row (Value.int k) w w.heap.size (.slice a len cap) (zs.take len) := by
  rcases h with ⟨rfl, rfl, rfl, rfl⟩ | ⟨x, rfl, hl, hm, hz, hc, _⟩
  · exact Row.nil _ _ _ _ _ (by decide)
  · by_cases h0 : len = 0
    · subst h0
      simp only [List.take_zero]
      exact Row.nil _ _ _ _ _ hm
    · obtain ⟨b, off, spot⟩ := x
      have h1 := hc 0 (by omega)
      have hspot : spot = none := by simpa [Addr.add] using World.cell?_spot h1
      subst hspot
      have hb : b < w.heap.size := World.block_lt_of_cell? w ⟨b, off, none⟩ (by simpa [Addr.add] using h1)
      have hlen : (zs.take len).length = len := by simp; omega
      refine ⟨cap, by omega, hm, .inr ⟨b, off, by rw [hlen], hb, fun j hj => ?_⟩⟩
      have := hc j (by simp at hj; omega)
      rw [Addr.add_lit] at this
      rw [this]
      have hj2 : j < zs.length := by simp at hj; omega
      simp [hj2]
theorem row_in_wf {k : IntKind} {w : World} {a : Option Addr} {len cap : Nat} {zs : List Int}
    (h : (a = none ∧ len = 0 ∧ cap = 0 ∧ zs = []) ∨
      ∃ x, a = some x ∧ len ≤ cap ∧ cap ≤ maxLen ∧ zs.length = cap ∧ (∀ i, i < zs.length → w.cell? (x.add i) = some (.int k (zs.getD i 0))) ∧ ∀ n ∈ zs, (Lit.int k n).wf = true) :
    ∀ n ∈ zs.take len, (Lit.int k n).wf = true := by
  rcases h with ⟨_, _, _, rfl⟩ | ⟨_, _, _, _, _, _, hw⟩
  · intro n hn; simp at hn
  · exact fun n hn => hw n (List.mem_of_mem_take hn)
end Go.Proofs.YtkoegbjnhoecoaaGreatDoor
namespace Go.Proofs.YtkoegbjnhoecoaaGreatDoor
open Go.RowKit

/-- The slice value v reads as the list xs, an element in n cells, written by f, below block B. -/
def RowC {α : Type} (n : Nat) (f : α → List Value) (w : World) (B : Nat) (v : Value) (xs : List α) : Prop :=
  ∃ cap, xs.length ≤ cap ∧ cap ≤ maxLen ∧
    ((xs = [] ∧ ∃ A, v = .slice A 0 cap) ∨
     (∃ b off, v = .slice (some ⟨b, off, none⟩) xs.length cap ∧ b < B ∧ ∀ j (h : j < xs.length) i u, (f xs[j])[i]? = some u → w.cell? ⟨b, off + j * n + i, none⟩ = some u))

section
variable {α : Type} {n : Nat} {f : α → List Value} {w w' : World} {B B' : Nat} {v : Value} {xs : List α}
theorem RowC.below {C : Nat} (h : RowC n f w B v xs) (hb : Below C w w') (hB : B ≤ C) : RowC n f w' B v xs := by
  obtain ⟨cap, h1, h2, h3⟩ := h
  refine ⟨cap, h1, h2, ?_⟩
  rcases h3 with h3 | ⟨b, off, hv, hlt, hc⟩
  · exact .inl h3
  · exact .inr ⟨b, off, hv, hlt, fun j hj i u hu => (hb.cell (p := ⟨b, off + j * n + i, none⟩) (Nat.lt_of_lt_of_le hlt hB)).trans (hc j hj i u hu)⟩
theorem RowC.shape (h : RowC n f w B v xs) : ∃ A cap, v = .slice A xs.length cap ∧ xs.length ≤ cap ∧ cap ≤ 9223372036854775807 ∧
    (xs ≠ [] → ∃ b off, A = some ⟨b, off, none⟩ ∧ b < B ∧ ∀ j (h : j < xs.length) i u, (f xs[j])[i]? = some u → w.cell? ⟨b, off + j * n + i, none⟩ = some u) := by
  obtain ⟨cap, h1, h2, h3⟩ := h
  have h2' : cap ≤ 9223372036854775807 := by simpa [maxLen] using h2
  rcases h3 with ⟨rfl, A, rfl⟩ | ⟨b, off, rfl, hb, hc⟩
  · exact ⟨A, cap, rfl, by simp, h2', fun h => absurd rfl h⟩
  · exact ⟨_, cap, rfl, h1, h2', fun _ => ⟨b, off, rfl, hb, hc⟩⟩
theorem RowC.row {g : α → Value} (h : RowC 1 (fun a => [g a]) w B v xs) : Row g w B v xs := by
  obtain ⟨cap, h1, h2, h3⟩ := h
  refine ⟨cap, h1, h2, ?_⟩
  rcases h3 with h3 | ⟨b, off, hv, hlt, hc⟩
  · exact .inl h3
  · exact .inr ⟨b, off, hv, hlt, fun j hj => by simpa using hc j hj 0 _ rfl⟩
end

theorem rowC_open {H : Type} {enc : TypeId × Value → H} {P : Program} {w : World} {base : Nat} {spare : Nat → Bool} {held : Bool} {t e : TypeId} {α : Type} [Inhabited α] (n : Nat) (f : α → List Value) (Ok : α → Prop)
    (ht : P.underlying t = some (.slice e)) (hc : P.cellsOf e = n) (hn : 0 < n)
    (hread : ∀ fuel cs y, DataW.trod enc P w base spare held fuel e cs = some y → ∃ a, cs = f a ∧ Ok a)
    {a : Option Addr} {len cap : Nat} {d : DataW H} {p : List MemPlace} (h : DataW.Trod enc P w base spare held t (.slice a len cap) d p) :
    ∃ xs : List α, xs.length = len ∧ RowC n f w w.heap.size (.slice a len cap) xs ∧ ∀ x ∈ xs, Ok x := by
  obtain ⟨fuel, h⟩ := h
  rcases DataW.trod_slice ht h with ⟨hcs, _⟩ | ⟨x, len', cap', elems, rest, m, _, hcs, _, hb, hl, hm, hlen, hel, _, _⟩
  · simp [Value.cells] at hcs
    obtain ⟨rfl, rfl, rfl⟩ := hcs
    exact ⟨[], rfl, ⟨0, by simp, by decide, .inl ⟨rfl, none, rfl⟩⟩, by simp⟩
  · simp [Value.cells] at hcs
    obtain ⟨rfl, rfl, rfl⟩ := hcs
    have each : ∀ i, i < len → ∃ y, Ok y ∧ (f y).length = n ∧ ∀ j u, (f y)[j]? = some u → w.cell? ((x.add (i * n)).add j) = some u := by
      intro i hi
      have h1 := hel i hi
      rw [hc, List.getElem?_eq_getElem (by omega)] at h1
      obtain ⟨cs, h2, h3⟩ := Option.bind_eq_some_iff.1 h1
      obtain ⟨y, rfl, hy⟩ := hread _ _ _ h3
      obtain ⟨_, h4, h5⟩ := World.cells?_some h2
      refine ⟨y, hy, h4, fun j u hj => ?_⟩
      have hjn : j < n := by
        have := (List.getElem?_eq_some_iff.1 hj).1
        omega
      rw [h5 j hjn, hj]
    let g : Nat → α := fun i => if hi : i < len then Classical.choose (each i hi) else default
    have hg : ∀ i (hi : i < len), Ok (g i) ∧ (f (g i)).length = n ∧ ∀ j u, (f (g i))[j]? = some u → w.cell? ((x.add (i * n)).add j) = some u := by
      intro i hi
      have := Classical.choose_spec (each i hi)
      simp only [g, dif_pos hi]
      exact this
    refine ⟨(List.range len).map g, by simp, ?_, ?_⟩
    · by_cases h0 : len = 0
      · subst h0
        exact ⟨cap, by simp, hm, .inl ⟨by simp, some x, rfl⟩⟩
      · obtain ⟨b, off, spot⟩ := x
        have h1 := hg 0 (by omega)
        have h2 := h1.2.2 0 _ (List.getElem?_eq_getElem (by omega))
        have hspot : spot = none := by simpa [Addr.add] using World.cell?_spot h2
        subst hspot
        have hlt : b < w.heap.size := World.block_lt_of_cell? w ⟨b, off, none⟩ (by simpa [Addr.add] using h2)
        refine ⟨cap, by simpa using hl, hm, .inr ⟨b, off, by simp, hlt, fun j hj i u hu => ?_⟩⟩
        simp at hj
        have := (hg j hj).2.2 i u (by simpa using hu)
        rw [Addr.add_lit, Addr.add_lit] at this
        exact this
    · intro y hy
      simp at hy
      obtain ⟨i, hi, rfl⟩ := hy
      exact (hg i hi).1

section
variable {H : Type} {enc : TypeId × Value → H} {P : Program} {w : World} {base : Nat} {spare : Nat → Bool} {held : Bool} {t e : TypeId} {a : Option Addr} {len cap : Nat} {d : DataW H} {p : List MemPlace}
theorem in_strings (ht : P.underlying t = some (.slice e)) (he : P.underlying e = some .string) (hc : P.cellsOf e = 1) (h : DataW.Trod enc P w base spare held t (.slice a len cap) d p) :
    ∃ xs : List ByteArray, xs.length = len ∧ Row Value.string w w.heap.size (.slice a len cap) xs ∧ ∀ x ∈ xs, x.size ≤ maxLen := by
  obtain ⟨xs, h1, h2, h3⟩ := rowC_open 1 (fun s : ByteArray => [Value.string s]) (fun s => s.size ≤ maxLen) ht hc (by decide) (fun fuel cs y hy => by obtain ⟨s, h1, _, h2⟩ := DataW.trod_string he hy; exact ⟨s, h1, h2⟩) h
  exact ⟨xs, h1, h2.row, h3⟩
theorem in_bools (ht : P.underlying t = some (.slice e)) (he : P.underlying e = some .bool) (hc : P.cellsOf e = 1) (h : DataW.Trod enc P w base spare held t (.slice a len cap) d p) :
    ∃ xs : List Bool, xs.length = len ∧ Row Value.bool w w.heap.size (.slice a len cap) xs := by
  obtain ⟨xs, h1, h2, _⟩ := rowC_open 1 (fun s : Bool => [Value.bool s]) (fun _ => True) ht hc (by decide) (fun fuel cs y hy => by obtain ⟨s, h1, _⟩ := DataW.trod_bool he hy; exact ⟨s, h1, trivial⟩) h
  exact ⟨xs, h1, h2.row⟩
theorem in_ints {k : IntKind} (ht : P.underlying t = some (.slice e)) (he : P.underlying e = some (.int k)) (hc : P.cellsOf e = 1) (h : DataW.Trod enc P w base spare held t (.slice a len cap) d p) :
    ∃ xs : List Int, xs.length = len ∧ Row (Value.int k) w w.heap.size (.slice a len cap) xs ∧ ∀ x ∈ xs, (Lit.int k x).wf = true := by
  obtain ⟨xs, h1, h2, h3⟩ := rowC_open 1 (fun s : Int => [Value.int k s]) (fun s => (Lit.int k s).wf = true) ht hc (by decide) (fun fuel cs y hy => by obtain ⟨s, h1, _, h2⟩ := DataW.trod_int he hy; exact ⟨s, h1, h2⟩) h
  exact ⟨xs, h1, h2.row, h3⟩
/-- [][2]K, K an integer kind -/
theorem in_pairs {k : IntKind} {q : TypeId} (ht : P.underlying t = some (.slice e)) (he : P.underlying e = some (.array 2 q)) (hq : P.underlying q = some (.int k)) (hc : P.cellsOf e = 2) (hcq : P.cellsOf q = 1) (h : DataW.Trod enc P w base spare held t (.slice a len cap) d p) :
    ∃ xs : List (Int × Int), xs.length = len ∧ RowC 2 (fun x : Int × Int => [Value.int k x.1, Value.int k x.2]) w w.heap.size (.slice a len cap) xs ∧ ∀ x ∈ xs, (Lit.int k x.1).wf = true ∧ (Lit.int k x.2).wf = true := by
  refine rowC_open 2 (fun x : Int × Int => [Value.int k x.1, Value.int k x.2]) (fun x => (Lit.int k x.1).wf = true ∧ (Lit.int k x.2).wf = true) ht hc (by decide) (fun fuel cs y hy => ?_) h
  obtain ⟨ys, m, _, _, h1, h2, h3⟩ := DataW.trod_array he hy
  rw [hc] at h1
  have e0 := h3 0 (by omega)
  have e1 := h3 1 (by omega)
  rw [List.getElem?_eq_getElem (by omega)] at e0 e1
  obtain ⟨x0, g0, _, k0⟩ := DataW.trod_int hq e0
  obtain ⟨x1, g1, _, k1⟩ := DataW.trod_int hq e1
  rw [hcq] at g0 g1
  match cs, h1 with
  | [c0, c1], _ =>
    simp at g0 g1
    subst g0
    subst g1
    exact ⟨(x0, x1), rfl, k0, k1⟩
end
end Go.Proofs.YtkoegbjnhoecoaaGreatDoor
namespace Go.Proofs.YtkoegbjnhoecoaaGreatDoor

namespace Tx
theorem snoc_ind {α : Type} {P : List α → Prop} (nil : P []) (snoc : ∀ l a, P l → P (l ++ [a])) (l : List α) : P l := by
  have h : ∀ m : List α, P m.reverse := fun m => by
    induction m with
    | nil => exact nil
    | cons a m ih => rw [List.reverse_cons]; exact snoc _ _ ih
  have := h l.reverse
  rwa [List.reverse_reverse] at this
abbrev Bs := List UInt8
def bs (l : Bs) : ByteArray := ⟨l.toArray⟩
abbrev vs (l : Bs) : Value := .string (bs l)
theorem bs_list (l : Bs) : (bs l).data.toList = l := by simp [bs]
theorem bs_of (s : ByteArray) : bs s.data.toList = s := by cases s; simp [bs]
theorem bs_size (l : Bs) : (bs l).size = l.length := by simp [bs, ByteArray.size]
theorem size_list (s : ByteArray) : s.data.toList.length = s.size := by rw [Array.length_toList]; rfl
theorem bs_inj {a b : Bs} (h : bs a = bs b) : a = b := by rw [← bs_list a, h, bs_list]
theorem bs_append (a b : Bs) : bs a ++ bs b = bs (a ++ b) := by
  apply ByteArray.ext
  simp [bs, ByteArray.data_append]
theorem bs_extract (s : ByteArray) (i j : Nat) : s.extract i j = bs ((s.data.toList.take j).drop i) := by
  apply ByteArray.ext
  simp only [bs, ByteArray.data_extract]
  apply Array.ext'
  simp [Array.toList_extract, List.extract_eq_take_drop]
  rw [List.drop_take]
theorem bs_extract' (l : Bs) (i j : Nat) : (bs l).extract i j = bs ((l.take j).drop i) := by rw [bs_extract, bs_list]
theorem bs_iff (a b : Bs) : bs a = bs b ↔ a = b := ⟨bs_inj, fun h => by rw [h]⟩

/-- What stands between bytes at which p strikes: what is whole, and what stands last. -/
def stp (p : UInt8 → Bool) (s : List Bs × Bs) (c : UInt8) : List Bs × Bs := if p c then (s.1 ++ [s.2], []) else (s.1, s.2 ++ [c])
def sp (p : UInt8 → Bool) (l : Bs) : List Bs × Bs := l.foldl (stp p) ([], [])
def pieces (p : UInt8 → Bool) (l : Bs) : List Bs := (sp p l).1 ++ [(sp p l).2]
theorem sp_nil (p : UInt8 → Bool) : sp p [] = ([], []) := rfl
theorem sp_snoc (p : UInt8 → Bool) (l : Bs) (c : UInt8) : sp p (l ++ [c]) = stp p (sp p l) c := by simp [sp, List.foldl_append]
theorem sp_hit (p : UInt8 → Bool) (l : Bs) (c : UInt8) (h : p c = true) : sp p (l ++ [c]) = ((sp p l).1 ++ [(sp p l).2], []) := by rw [sp_snoc, stp, if_pos h]
theorem sp_miss (p : UInt8 → Bool) (l : Bs) (c : UInt8) (h : p c = false) : sp p (l ++ [c]) = ((sp p l).1, (sp p l).2 ++ [c]) := by rw [sp_snoc, stp, if_neg (by simp [h])]
theorem sp_more (p : UInt8 → Bool) (m : Bs) : ∀ (l : Bs), (∀ c ∈ m, p c = false) → sp p (l ++ m) = ((sp p l).1, (sp p l).2 ++ m) := by
  induction m with
  | nil => intro l _; simp
  | cons c m ih =>
    intro l h
    rw [show l ++ c :: m = (l ++ [c]) ++ m by simp, ih _ (fun d hd => h d (List.mem_cons_of_mem _ hd)), sp_miss p l c (h c (List.mem_cons_self ..))]
    simp
theorem foldl_stp (p : UInt8 → Bool) (m : Bs) : ∀ (a : List Bs) (b : Bs), m.foldl (stp p) (a, b) = (a ++ (match sp p m with | ([], _x) => [] | (x :: y, _) => (b ++ x) :: y), match sp p m with | ([], x) => b ++ x | (_ :: _, x) => x) := by
  induction m using snoc_ind with
  | nil => intro a b; simp [sp]
  | snoc m c ih =>
    intro a b
    rw [List.foldl_append, ih, sp_snoc]
    simp only [List.foldl_cons, List.foldl_nil]
    rcases hs : sp p m with ⟨x, y⟩
    cases x with
    | nil =>
      simp only [stp]
      split <;> simp
    | cons x0 x =>
      simp only [stp]
      split <;> simp
/-- All pieces of two texts, one behind the other. -/
theorem sp_append (p : UInt8 → Bool) (l m : Bs) : sp p (l ++ m) = ((sp p l).1 ++ (match sp p m with | ([], _x) => [] | (x :: y, _) => ((sp p l).2 ++ x) :: y), match sp p m with | ([], x) => (sp p l).2 ++ x | (_ :: _, x) => x) := by
  unfold sp
  rw [List.foldl_append]
  exact foldl_stp p m _ _
theorem pieces_hit (p : UInt8 → Bool) (l m : Bs) (c : UInt8) (h : p c = true) : pieces p (l ++ c :: m) = pieces p l ++ pieces p m := by
  have e : sp p (c :: m) = ([] :: (sp p m).1, (sp p m).2) := by
    show m.foldl (stp p) (stp p ([], []) c) = _
    rw [stp, if_pos h, foldl_stp]
    rcases sp p m with ⟨x, y⟩
    cases x <;> simp
  unfold pieces
  rw [sp_append, e]
  simp
theorem pieces_none (p : UInt8 → Bool) (l : Bs) (h : ∀ c ∈ l, p c = false) : pieces p l = [l] := by
  have := sp_more p l [] h
  simp only [List.nil_append, sp_nil] at this
  simp [pieces, this]
theorem sp_clean (p : UInt8 → Bool) (l : Bs) : (∀ w ∈ (sp p l).1, ∀ c ∈ w, p c = false) ∧ ∀ c ∈ (sp p l).2, p c = false := by
  induction l using snoc_ind with
  | nil => simp [sp]
  | snoc l c ih =>
    cases h : p c with
    | true =>
      rw [sp_hit p l c h]
      refine ⟨fun w hw => ?_, by simp⟩
      rcases List.mem_append.1 hw with hw | hw
      · exact ih.1 w hw
      · simp at hw; subst hw; exact ih.2
    | false =>
      rw [sp_miss p l c h]
      refine ⟨ih.1, fun d hd => ?_⟩
      rcases List.mem_append.1 hd with hd | hd
      · exact ih.2 d hd
      · simp at hd; subst hd; exact h
theorem pieces_clean (p : UInt8 → Bool) (l : Bs) : ∀ w ∈ pieces p l, ∀ c ∈ w, p c = false := by
  intro w hw
  rcases List.mem_append.1 hw with hw | hw
  · exact (sp_clean p l).1 w hw
  · simp at hw; subst hw; exact (sp_clean p l).2
theorem sp_length (p : UInt8 → Bool) (l : Bs) : (sp p l).1.length ≤ l.length := by
  induction l using snoc_ind with
  | nil => simp [sp]
  | snoc l c ih =>
    cases h : p c with
    | true => rw [sp_hit p l c h]; simp; exact ih
    | false => rw [sp_miss p l c h]; simp; omega
theorem pieces_length (p : UInt8 → Bool) (l : Bs) : (pieces p l).length ≤ l.length + 1 := by
  have := sp_length p l
  simp [pieces]; omega
theorem sp_sum (p : UInt8 → Bool) (l : Bs) : ((sp p l).1.map List.length).sum + (sp p l).2.length ≤ l.length := by
  induction l using snoc_ind with
  | nil => simp [sp]
  | snoc l c ih =>
    cases h : p c with
    | true => rw [sp_hit p l c h]; simp; omega
    | false => rw [sp_miss p l c h]; simp; omega

def ne (l : List Bs) : List Bs := l.filter fun w => !w.isEmpty
theorem ne_append (a b : List Bs) : ne (a ++ b) = ne a ++ ne b := by simp [ne]
theorem ne_one (w : Bs) : ne [w] = if w = [] then [] else [w] := by cases w <;> simp [ne]
theorem ne_sum (l : List Bs) : ((ne l).map List.length).sum = (l.map List.length).sum := by
  induction l with
  | nil => rfl
  | cons a l ih => cases a <;> simp [ne] at ih ⊢ <;> omega
theorem ne_length (l : List Bs) : (ne l).length ≤ l.length := List.length_filter_le _ _
/-- A blank. -/
def bl (c : UInt8) : Bool := c == 32 || c == 9 || c == 10
def words (l : Bs) : List Bs := ne (pieces bl l)
theorem words_clean (l : Bs) : ∀ w ∈ words l, w ≠ [] ∧ ∀ c ∈ w, bl c = false := by
  intro w hw
  obtain ⟨h1, h2⟩ := List.mem_filter.1 hw
  exact ⟨by cases w <;> simp at h2 ⊢, pieces_clean bl l w h1⟩
theorem words_length (l : Bs) : (words l).length ≤ l.length + 1 := Nat.le_trans (ne_length _) (pieces_length _ _)
theorem words_sum (l : Bs) : ((words l).map List.length).sum ≤ l.length := by
  unfold words
  rw [ne_sum]
  have := sp_sum bl l
  simpa [pieces] using this
theorem words_hit (l m : Bs) (c : UInt8) (h : bl c = true) : words (l ++ c :: m) = words l ++ words m := by
  unfold words
  rw [pieces_hit bl l m c h, ne_append]
theorem words_one (w : Bs) (h : w ≠ []) (hc : ∀ c ∈ w, bl c = false) : words w = [w] := by
  unfold words
  rw [pieces_none bl w hc, ne_one, if_neg h]
theorem words_nil : words [] = [] := rfl

def join (l : List Bs) : Bs := Lib.join l [32]
theorem join_nil : join [] = [] := rfl
theorem join_one (w : Bs) : join [w] = w := Lib.join_one w [32]
theorem join_cons (w x : Bs) (l : List Bs) : join (w :: x :: l) = w ++ 32 :: join (x :: l) := by
  unfold join
  rw [Lib.join_cons, Lib.join_cons]
  simp [Lib.joinTail]
theorem join_snoc (l : List Bs) (w : Bs) (h : l ≠ []) : join (l ++ [w]) = join l ++ 32 :: w := by
  induction l with
  | nil => exact absurd rfl h
  | cons a l ih =>
    cases l with
    | nil => rw [List.singleton_append, join_cons, join_one, join_one]
    | cons b l => rw [List.cons_append, List.cons_append, join_cons, ← List.cons_append, ih (by simp), join_cons]; simp
/-- Words joined are words again. -/
theorem words_join (l : List Bs) (h : ∀ w ∈ l, w ≠ [] ∧ ∀ c ∈ w, bl c = false) : words (join l) = l := by
  induction l with
  | nil => rfl
  | cons a l ih =>
    have h1 := h a (List.mem_cons_self ..)
    cases l with
    | nil => rw [join_one, words_one a h1.1 h1.2]
    | cons b l =>
      rw [join_cons, words_hit _ _ _ (by decide), words_one a h1.1 h1.2, ih (fun w hw => h w (List.mem_cons_of_mem _ hw))]
      rfl
theorem join_length (l : List Bs) : (join l).length ≤ (l.map List.length).sum + l.length := by
  induction l with
  | nil => simp [join_nil]
  | cons a l ih =>
    cases l with
    | nil => rw [join_one]; simp
    | cons b l => rw [join_cons]; simp at ih ⊢; omega
end Tx
end Go.Proofs.YtkoegbjnhoecoaaGreatDoor
namespace Go.Proofs.YtkoegbjnhoecoaaGreatDoor
open Go.Lib
namespace Wr

abbrev Bs := List UInt8

/-- Reading a length: i signs are read, n is their number; the rest is still to be read. -/
def len : Bs → Nat → Nat → Except Nat (Nat × Bs)
  | [], _, _ => .error 6
  | c :: t, i, n =>
    if c.toNat = 58 ∧ 0 < i then .ok (n, t)
    else if c.toNat < 48 ∨ 57 < c.toNat ∨ (0 < i ∧ n = 0) then .error 5
    else if 999999 < n * 10 + (c.toNat - 48) then .error 3
    else len t (i + 1) (n * 10 + (c.toNat - 48))

/-- The text at the beginning, and what is behind it. -/
def get1 (t : Bs) (top : Nat) : Except Nat (Bs × Bs) :=
  match len t 0 0 with
  | .error e => .error e
  | .ok (n, r) => if top < n then .error 3 else if r.length < n + 1 then .error 6 else if r[n]? ≠ some 44 then .error 5 else .ok (r.take n, r.drop (n + 1))

def put (s : Bs) : Bs := decDigits s.length ++ 58 :: (s ++ [44])

theorem dig_snoc (n d : Nat) (hn : n ≠ 0) (hd : d < 10) : decDigits (n * 10 + d) = decDigits n ++ [UInt8.ofNat (48 + d)] := by
  rw [decDigits, dif_neg (by omega), show (n * 10 + d) / 10 = n by omega, show (n * 10 + d) % 10 = d by omega]
theorem byte_nat (c : UInt8) (n : Nat) (h : c.toNat = n) : c = UInt8.ofNat n := by subst h; simp
theorem dig_byte (d : Nat) (hd : d < 10) : (UInt8.ofNat (48 + d)).toNat = 48 + d := by simp; omega

theorem len_read : ∀ u : Nat, u ≤ 999999 → ∃ i, 0 < i ∧ ∀ t, len (decDigits u ++ t) 0 0 = len t i u := by
  intro u
  induction u using Nat.strongRecOn with
  | _ u ih =>
    intro hu
    by_cases h : u < 10
    · refine ⟨1, by omega, fun t => ?_⟩
      have hb := dig_byte u h
      rw [decDigits, dif_pos h]
      simp only [List.cons_append, List.nil_append, len]
      rw [if_neg (by omega), if_neg (by omega), if_neg (by omega), hb]
      congr 1
      omega
    · obtain ⟨i, hi, he⟩ := ih (u / 10) (by omega) (by omega)
      refine ⟨i + 1, by omega, fun t => ?_⟩
      have hb := dig_byte (u % 10) (by omega)
      rw [decDigits, dif_neg h, List.append_assoc, he]
      simp only [List.cons_append, List.nil_append, len]
      rw [if_neg (by omega), if_neg (by omega), if_neg (by omega), hb]
      congr 1
      omega

theorem get1_put (x r : Bs) (top : Nat) (h1 : x.length ≤ top) (h2 : x.length ≤ 999999) : get1 (put x ++ r) top = .ok (x, r) := by
  obtain ⟨i, hi, he⟩ := len_read x.length h2
  unfold get1 put
  rw [List.append_assoc, he]
  simp only [List.cons_append, len, List.append_assoc, List.nil_append]
  rw [if_pos (by exact ⟨rfl, hi⟩)]
  simp only
  rw [if_neg (by omega), if_neg (by simp), if_neg (by simp)]
  simp
theorem get1_most (x r : Bs) (top : Nat) (h1 : top < x.length) (h2 : x.length ≤ 999999) : get1 (put x ++ r) top = .error 3 := by
  obtain ⟨i, hi, he⟩ := len_read x.length h2
  unfold get1 put
  rw [List.append_assoc, he]
  simp only [List.cons_append, len, List.append_assoc, List.nil_append]
  rw [if_pos (by exact ⟨rfl, hi⟩)]
  simp only
  rw [if_pos h1]

theorem len_on : ∀ (t : Bs) (i n m : Nat) (r : Bs), 0 < i → n ≤ 999999 → len t i n = .ok (m, r) → decDigits n ++ t = decDigits m ++ 58 :: r ∧ m ≤ 999999 := by
  intro t
  induction t with
  | nil => intro i n m r _ _ h; simp [len] at h
  | cons c t ih =>
    intro i n m r hi hn h
    simp only [len] at h
    split at h
    · next hc =>
      injection h with h
      injection h with h1 h2
      subst h1 h2
      rw [byte_nat c 58 hc.1]
      exact ⟨rfl, hn⟩
    · split at h
      · cases h
      · split at h
        · cases h
        · obtain ⟨h1, h2⟩ := ih (i + 1) (n * 10 + (c.toNat - 48)) m r (by omega) (by omega) h
          refine ⟨?_, h2⟩
          rw [dig_snoc n _ (by omega) (by omega), show 48 + (c.toNat - 48) = c.toNat by omega] at h1
          simpa using h1
theorem len_inv (t : Bs) (m : Nat) (r : Bs) (h : len t 0 0 = .ok (m, r)) : t = decDigits m ++ 58 :: r ∧ m ≤ 999999 := by
  cases t with
  | nil => simp [len] at h
  | cons c t =>
    simp only [len] at h
    rw [if_neg (by omega)] at h
    split at h
    · cases h
    · split at h
      · cases h
      · obtain ⟨h1, h2⟩ := len_on t 1 _ m r (by omega) (by omega) h
        refine ⟨?_, h2⟩
        rw [decDigits, dif_pos (by omega), show 48 + (0 * 10 + (c.toNat - 48)) = c.toNat by omega] at h1
        simpa using h1
theorem get1_inv (t : Bs) (top : Nat) (x r : Bs) (h : get1 t top = .ok (x, r)) : t = put x ++ r ∧ x.length ≤ top ∧ x.length ≤ 999999 := by
  unfold get1 at h
  split at h
  · cases h
  · next n q hq =>
    obtain ⟨h1, h2⟩ := len_inv t n q hq
    split at h
    · cases h
    · split at h
      · cases h
      · split at h
        · cases h
        · next a b c =>
          injection h with h
          injection h with h3 h4
          have hn : n < q.length := by omega
          have hl : x.length = n := by rw [← h3]; simp; omega
          have hc : q[n] = 44 := by
            have := c
            rw [List.getElem?_eq_getElem hn] at this
            simpa using this
          refine ⟨?_, by omega, by omega⟩
          rw [h1, put, hl]
          have : q = x ++ 44 :: r := by
            rw [← h3, ← h4, ← hc, List.getElem_cons_drop, List.take_append_drop]
          rw [this]
          simp
theorem get1_short {t : Bs} {top : Nat} {x r : Bs} (h : get1 t top = .ok (x, r)) : r.length < t.length := by
  rw [(get1_inv t top x r h).1]
  simp [put]
  omega

theorem put_first (s t u : Bs) (hs : s.length ≤ 999999) (ht : t.length ≤ 999999) (h : put s ++ u = put t) : s = t := by
  have h1 := get1_put s u 999999 hs hs
  have h2 := get1_put t [] 999999 ht ht
  rw [h] at h1
  rw [List.append_nil, h1] at h2
  injection h2 with h2
  injection h2

theorem len_cut : ∀ u : Nat, u ≤ 999999 → ∀ k, len ((decDigits u).take k) 0 0 = .error 6 := by
  intro u
  induction u using Nat.strongRecOn with
  | _ u ih =>
    intro hu k
    by_cases hk : k < (decDigits u).length
    · by_cases h : u < 10
      · rw [decDigits, dif_pos h] at hk
        obtain rfl : k = 0 := by simpa using hk
        rw [List.take_zero]
        rfl
      · rw [decDigits, dif_neg h] at hk ⊢
        simp at hk
        rw [List.take_append_of_le_length (by omega)]
        exact ih (u / 10) (by omega) (by omega) k
    · rw [List.take_of_length_le (by omega)]
      obtain ⟨i, hi, he⟩ := len_read u hu
      have := he []
      rw [List.append_nil] at this
      rw [this]
      rfl
theorem get1_cut (s : Bs) (hs : s.length ≤ 999999) (k : Nat) (hk : k < (put s).length) : get1 ((put s).take k) 999999 = .error 6 := by
  have hp : (put s).length = (decDigits s.length).length + (s.length + 2) := by simp [put]
  unfold get1
  by_cases h : k ≤ (decDigits s.length).length
  · rw [put, List.take_append_of_le_length h, len_cut s.length hs k]
  · obtain ⟨i, hi, he⟩ := len_read s.length hs
    have e : (put s).take k = decDigits s.length ++ 58 :: ((s ++ [44]).take (k - (decDigits s.length).length - 1)) := by
      rw [put, List.take_append, List.take_of_length_le (by omega), show k - (decDigits s.length).length = (k - (decDigits s.length).length - 1) + 1 by omega, List.take_succ_cons]
      simp
    rw [e, he]
    simp only [len]
    rw [if_pos (by exact ⟨rfl, hi⟩)]
    simp only
    rw [if_neg (by omega), if_pos (by simp; omega)]

/-- All texts. -/
def all (t : Bs) : Except Nat (List Bs) :=
  if t = [] then .ok []
  else match _h : get1 t 999999 with
    | .error e => .error e
    | .ok (x, r) => match all r with
      | .error e => .error e
      | .ok l => .ok (x :: l)
termination_by t.length
decreasing_by exact get1_short _h
theorem all_nil : all [] = .ok [] := by rw [all, if_pos rfl]
theorem all_err (t : Bs) (e : Nat) (ht : t ≠ []) (h : get1 t 999999 = .error e) : all t = .error e := by
  rw [all, if_neg ht]
  split
  · next e' h' => rw [h] at h'; injection h' with h'; rw [h']
  · next x r h' => rw [h] at h'; cases h'
theorem all_ok (t x r : Bs) (h : get1 t 999999 = .ok (x, r)) : all t = match all r with | .error e => .error e | .ok l => .ok (x :: l) := by
  have ht : t ≠ [] := by
    rintro rfl
    simp [get1, len] at h
  rw [all, if_neg ht]
  split
  · next e' h' => rw [h] at h'; cases h'
  · next x' r' h' => rw [h] at h'; injection h' with h'; injection h' with h1 h2; subst h1 h2; rfl

def puts (l : List Bs) : Bs := (l.map put).flatten
theorem puts_snoc (l : List Bs) (x : Bs) : puts (l ++ [x]) = puts l ++ put x := by simp [puts]
theorem all_puts : ∀ l : List Bs, (∀ x ∈ l, x.length ≤ 999999) → all (puts l) = .ok l := by
  intro l
  induction l with
  | nil => intro _; exact all_nil
  | cons x l ih =>
    intro h
    have hx := h x (by simp)
    have h1 : get1 (put x ++ puts l) 999999 = .ok (x, puts l) := get1_put x (puts l) 999999 hx hx
    show all (puts (x :: l)) = _
    rw [show puts (x :: l) = put x ++ puts l by simp [puts], all_ok _ _ _ h1, ih (fun y hy => h y (by simp [hy]))]
theorem all_inv : ∀ (n : Nat) (t : Bs) (l : List Bs), t.length ≤ n → all t = .ok l → t = puts l ∧ ∀ x ∈ l, x.length ≤ 999999 := by
  intro n
  induction n with
  | zero =>
    intro t l h ha
    obtain rfl : t = [] := List.eq_nil_of_length_eq_zero (by omega)
    rw [all_nil] at ha
    injection ha with ha
    subst ha
    exact ⟨rfl, by simp⟩
  | succ n ih =>
    intro t l h ha
    by_cases ht : t = []
    · subst ht
      rw [all_nil] at ha
      injection ha with ha
      subst ha
      exact ⟨rfl, by simp⟩
    · match hg : get1 t 999999 with
      | .error e => rw [all_err t e ht hg] at ha; cases ha
      | .ok (x, r) =>
        rw [all_ok t x r hg] at ha
        obtain ⟨h1, h2, h3⟩ := get1_inv t _ x r hg
        have hs := get1_short hg
        match hr : all r with
        | .error e => rw [hr] at ha; cases ha
        | .ok m =>
          rw [hr] at ha
          injection ha with ha
          subst ha
          obtain ⟨h4, h5⟩ := ih r m (by omega) hr
          refine ⟨by rw [h1, h4]; simp [puts], ?_⟩
          intro y hy
          simp only [List.mem_cons] at hy
          rcases hy with rfl | hy
          · exact h3
          · exact h5 y hy
theorem put_len (x : Bs) : 3 ≤ (put x).length := by
  have := nDigits_pos x.length
  simp [put, decDigits_length]
  omega
end Wr
end Go.Proofs.YtkoegbjnhoecoaaGreatDoor
namespace Go.Proofs.YtkoegbjnhoecoaaGreatDoor
open Go.RowKit Go.Extern.Stop Go.Stop Go.Extern

theorem rlm (z : Sem Value) (f : TypeId → Addr → Nat → Nat → Sem Value) (v : Value) :
    ReflectliteValue.method z f #[v] = (do match ← ReflectliteValue.parts v with | none => z | some (t, a, fl) => f t a fl (fl % 32)) := rfl
theorem rls (v x : Value) : ReflectliteValue.set #[v, x] = (do
    let (some (dst, a, fl), some (src, b, _)) := (← ReflectliteValue.parts v, ← ReflectliteValue.parts x)
      | unsupported (.noEntry "extern/(internal/reflectlite.Value).Set.zeroValue")
    if fl / ReflectliteValue.flagAddr % 2 == 0 then unsupported (.noEntry "extern/(internal/reflectlite.Value).Set.unaddressable")
    let val ← loadVar src b
    if ← Rtype.directlyAssignable dst src then storeVar dst a val
    else if ← Rtype.implements dst src then
      if (← Rtype.kind src) == 20 then
        match val with
        | .nilIface => unsupported (.noEntry "extern/reflectlite: a nil value of one interface type handed on as a value of another")
        | _ => storeVar dst a val
      else storeVar dst a (.iface src val)
    else panicString ("reflectlite.Set: value of type " ++ (← Rtype.spelt src) ++ " is not assignable to type " ++ (← Rtype.spelt dst))
    pure (.tuple #[])) := rfl

theorem valueOfP (t : Addr) (w : World) : (ReflectliteValue.unpack (.iface 136 (.pointer (some t)))).run Tryz.prog w
    = .ok (.agg #[.pointer (some ⟨7, 136, none⟩), .pointer (some ⟨w.heap.size, 0, none⟩), .int .u64 150]) (w.alloc (.cells #[.pointer (some t)] 136)) := by kernel_rfl
theorem typeP (a : Addr) (w : World) : (ReflectliteValue.methodAny (ReflectliteValue.valueError "reflectlite.Value.Type" 0) (fun t _ _ _ => ReflectliteType.toType t) #[.agg #[.pointer (some ⟨7, 136, none⟩), .pointer (some a), .int .u64 150]]).run Tryz.prog w
    = .ok (.iface 165 (.agg #[.pointer (some ⟨7, 136, none⟩)])) w := by kernel_rfl
theorem mKind (h : Value) (w : World) : (Go.method 306 165 (.agg #[h]) "Kind").run Tryz.prog w = .ok (114, h) w := by kernel_rfl
theorem mElem (h : Value) (w : World) : (Go.method 306 165 (.agg #[h]) "Elem").run Tryz.prog w = .ok (131, .agg #[h]) w := by kernel_rfl
theorem mImplements (h : Value) (w : World) : (Go.method 306 165 (.agg #[h]) "Implements").run Tryz.prog w = .ok (132, .agg #[h]) w := by kernel_rfl
theorem mAssignable (h : Value) (w : World) : (Go.method 306 165 (.agg #[h]) "AssignableTo").run Tryz.prog w = .ok (129, .agg #[h]) w := by kernel_rfl
theorem mUnwrap (v : Value) (w : World) : (Go.method 306 130 v "Unwrap").run Tryz.prog w = .ok (123, v) w := by kernel_rfl
theorem kindP (w : World) : ((ReflectliteType.abiMethod fun t => (fun a : Nat => Value.int IntKind.u8 (a : Int)) <$> Rtype.kind t) #[.pointer (some ⟨7, 136, none⟩)]).run Tryz.prog w = .ok (.int .u8 22) w := by kernel_rfl
theorem kindE (w : World) : ((ReflectliteType.abiMethod fun t => (fun a : Nat => Value.int IntKind.u8 (a : Int)) <$> Rtype.kind t) #[.pointer (some ⟨7, 31, none⟩)]).run Tryz.prog w = .ok (.int .u8 2) w := by kernel_rfl
theorem partsP (a : Addr) (w : World) : (ReflectliteValue.parts (.agg #[.pointer (some ⟨7, 136, none⟩), .pointer (some a), .int .u64 150])).run Tryz.prog w = .ok (some (136, a, 150)) w := by kernel_rfl
theorem isNilP (a p : Addr) (W : World) (ha : W.cell? a = some (.pointer (some p))) :
    (ReflectliteValue.method (ReflectliteValue.valueError "reflectlite.Value.IsNil" 0) ReflectliteValue.isNil #[.agg #[.pointer (some ⟨7, 136, none⟩), .pointer (some a), .int .u64 150]]).run Tryz.prog W = .ok (.bool false) W := by
  rw [rlm]
  simp only [Sem.run_bind, partsP, Result.andThen]
  simp [ReflectliteValue.isNil, loadVar, isAgg, underlying, Tryz.underlying136, ha, Result.andThen]
theorem elemP (w : World) : (ReflectliteType.method ReflectliteType.elem #[.agg #[.pointer (some ⟨7, 136, none⟩)]]).run Tryz.prog w = .ok (.iface 165 (.agg #[.pointer (some ⟨7, 31, none⟩)])) w := by kernel_rfl
theorem implementsE (w : World) : (ReflectliteType.relation "Implements" ReflectliteType.implements_ #[.agg #[.pointer (some ⟨7, 31, none⟩)], .iface 165 (.agg #[.pointer (some ⟨7, 90, none⟩)])]).run Tryz.prog w = .ok (.bool true) w := by kernel_rfl
theorem typeOfW (v : Value) (w : World) : (ReflectliteType.typeOf #[.iface 130 v]).run Tryz.prog w = .ok (.iface 165 (.agg #[.pointer (some ⟨7, 130, none⟩)])) w := by kernel_rfl
theorem typeOfE (v : Value) (w : World) : (ReflectliteType.typeOf #[.iface 31 v]).run Tryz.prog w = .ok (.iface 165 (.agg #[.pointer (some ⟨7, 31, none⟩)])) w := by kernel_rfl
theorem assignableW (w : World) : (ReflectliteType.relation "AssignableTo" ReflectliteType.assignableTo #[.agg #[.pointer (some ⟨7, 130, none⟩)], .iface 165 (.agg #[.pointer (some ⟨7, 31, none⟩)])]).run Tryz.prog w = .ok (.bool false) w := by kernel_rfl
theorem assignableE (w : World) : (ReflectliteType.relation "AssignableTo" ReflectliteType.assignableTo #[.agg #[.pointer (some ⟨7, 31, none⟩)], .iface 165 (.agg #[.pointer (some ⟨7, 31, none⟩)])]).run Tryz.prog w = .ok (.bool true) w := by kernel_rfl
theorem valueOfE (x : Int) (w : World) : (ReflectliteValue.unpack (.iface 31 (.int .i64 x))).run Tryz.prog w
    = .ok (.agg #[.pointer (some ⟨7, 31, none⟩), .pointer (some ⟨w.heap.size, 0, none⟩), .int .u64 130]) (w.alloc (.cells #[.int .i64 x] 31)) := by kernel_rfl
theorem noAsW (v : Value) (xT : TypeId) (w : World) : (Instr.typeAssert (.iface 130 v) xT 170 true).run Tryz.prog w = .ok (.tuple #[.nilIface, .bool false]) w := run_typeAssert_lacksB Tryz.underlying170 (by kernel_rfl) (by kernel_rfl) v xT w
theorem unwrapW (v : Value) (xT : TypeId) (w : World) : (Instr.typeAssert (.iface 130 v) xT 173 true).run Tryz.prog w = .ok (.tuple #[.iface 130 v, .bool true]) w := run_typeAssert_hasB Tryz.underlying173 (by kernel_rfl) v xT w
theorem elemOfP (w : World) : (Rtype.elem? 136).run Tryz.prog w = .ok (some 31) w := by kernel_rfl
theorem mkE (p : Addr) (w : World) : (ReflectliteValue.mk 31 p ReflectliteValue.flagAddr).run Tryz.prog w = .ok (.agg #[.pointer (some ⟨7, 31, none⟩), .pointer (some p), .int .u64 386]) w := by kernel_rfl
theorem elemVP (a p : Addr) (W : World) (ha : W.cell? a = some (.pointer (some p))) :
    (ReflectliteValue.method (ReflectliteValue.valueError "reflectlite.Value.Elem" 0) ReflectliteValue.elem #[.agg #[.pointer (some ⟨7, 136, none⟩), .pointer (some a), .int .u64 150]]).run Tryz.prog W
      = .ok (.agg #[.pointer (some ⟨7, 31, none⟩), .pointer (some p), .int .u64 386]) W := by
  rw [rlm]
  simp only [Sem.run_bind, partsP, Result.andThen]
  simp [ReflectliteValue.elem, loadVar, isAgg, underlying, Tryz.underlying136, ha, Result.andThen, elemOfP, mkE]
theorem partsEa (a : Addr) (w : World) : (ReflectliteValue.parts (.agg #[.pointer (some ⟨7, 31, none⟩), .pointer (some a), .int .u64 386])).run Tryz.prog w = .ok (some (31, a, 386)) w := by kernel_rfl
theorem partsE (a : Addr) (w : World) : (ReflectliteValue.parts (.agg #[.pointer (some ⟨7, 31, none⟩), .pointer (some a), .int .u64 130])).run Tryz.prog w = .ok (some (31, a, 130)) w := by kernel_rfl
theorem directE (w : World) : (Rtype.directlyAssignable 31 31).run Tryz.prog w = .ok true w := by kernel_rfl
theorem setE (ta b : Addr) (x : Int) (old : Value) (W : World) (hb : W.cell? b = some (.int .i64 x)) (ht : W.cell? ta = some old) (hf : W.frozen? ta = false) :
    (ReflectliteValue.set #[.agg #[.pointer (some ⟨7, 31, none⟩), .pointer (some ta), .int .u64 386], .agg #[.pointer (some ⟨7, 31, none⟩), .pointer (some b), .int .u64 130]]).run Tryz.prog W
      = .ok (.tuple #[]) (W.setCell ta (.int .i64 x)) := by
  rw [rls]
  simp only [Sem.run_bind, partsEa, partsE, Result.andThen]
  simp [ReflectliteValue.flagAddr, loadVar, isAgg, underlying, Tryz.underlying31, hb, Result.andThen, directE, storeVar, Value.cells, storeCells, Addr.add]
  rw [run_store Tryz.prog W ta _ _ (by rfl)]
  simp [ht, hf]
end Go.Proofs.YtkoegbjnhoecoaaGreatDoor
namespace Go.Proofs.YtkoegbjnhoecoaaGreatDoor
open Go.RowKit Go.Extern.Stop Go.Stop Go.Extern

/-- The variable errors.errorType. -/
abbrev ErrT (w : World) : Prop := w.cell? ⟨4, 0, none⟩ = some (.iface 165 (.agg #[.pointer (some ⟨7, 90, none⟩)]))

set_option maxRecDepth 100000 in
set_option maxHeartbeats 4000000 in
theorem as_any (g : Nat) (t : Addr) (x : Int) (old : Value) (w : World) (hg : ErrT w) (hc : w.cell? ⟨g, 1, none⟩ = some (.int .i64 x)) (ht0 : w.cell? t = some old) (hf0 : w.frozen? t = false) :
    Calls Tryz.prog 80 #[.iface 130 (.pointer (some ⟨g, 0, none⟩)), .iface 136 (.pointer (some t))] w fun ev w' => ev = .returned (.bool true) ∧ w' = ((((w.alloc (.cells #[.pointer (some t)] 136)).alloc (.cells #[.pointer (some ⟨7, 136, none⟩), .pointer (some ⟨w.heap.size, 0, none⟩), .int .u64 150] 150)).alloc (.cells #[.pointer (some ⟨7, 136, none⟩), .pointer (some ⟨w.heap.size, 0, none⟩), .int .u64 150] 150)).alloc (.cells #[.int .i64 x] 31)).setCell t (.int .i64 x) := by
  have h6 := @run_callFunc_extern Tryz.prog 89 _ (fun args => ReflectliteValue.unpack (args.getD 0 (.tuple #[]))) Tryz.func89 (by kernel_rfl) (by kernel_rfl) (by kernel_rfl) (by kernel_rfl)
  have h7 := @run_callFunc_extern Tryz.prog 90 _ (ReflectliteValue.methodAny (ReflectliteValue.valueError "reflectlite.Value.Type" 0) (fun t _ _ _ => ReflectliteType.toType t)) Tryz.func90 (by kernel_rfl) (by kernel_rfl) (by kernel_rfl) (by kernel_rfl)
  have h8 := @run_callFunc_extern Tryz.prog 91 _ (ReflectliteValue.method (ReflectliteValue.valueError "reflectlite.Value.IsNil" 0) ReflectliteValue.isNil) Tryz.func91 (by kernel_rfl) (by kernel_rfl) (by kernel_rfl) (by kernel_rfl)
  have h27 := @run_callFunc_extern Tryz.prog 114 _ (ReflectliteType.abiMethod fun t => do pure (.int .u8 (← Rtype.kind t))) Tryz.func114 (by kernel_rfl) (by kernel_rfl) (by kernel_rfl) (by kernel_rfl)
  have h37 := @run_callFunc_extern Tryz.prog 131 _ (ReflectliteType.method ReflectliteType.elem) Tryz.func131 (by kernel_rfl) (by kernel_rfl) (by kernel_rfl) (by kernel_rfl)
  have h38 := @run_callFunc_extern Tryz.prog 132 _ (ReflectliteType.relation "Implements" ReflectliteType.implements_) Tryz.func132 (by kernel_rfl) (by kernel_rfl) (by kernel_rfl) (by kernel_rfl)
  have h10 := @run_callFunc_extern Tryz.prog 97 _ ReflectliteType.typeOf Tryz.func97 (by kernel_rfl) (by kernel_rfl) (by kernel_rfl) (by kernel_rfl)
  have h35 := @run_callFunc_extern Tryz.prog 129 _ (ReflectliteType.relation "AssignableTo" ReflectliteType.assignableTo) Tryz.func129 (by kernel_rfl) (by kernel_rfl) (by kernel_rfl) (by kernel_rfl)
  have h11 := @run_callFunc_extern Tryz.prog 98 _ (ReflectliteValue.method (ReflectliteValue.valueError "reflectlite.Value.Elem" 0) ReflectliteValue.elem) Tryz.func98 (by kernel_rfl) (by kernel_rfl) (by kernel_rfl) (by kernel_rfl)
  have h12 := @run_callFunc_extern Tryz.prog 99 _ ReflectliteValue.set Tryz.func99 (by kernel_rfl) (by kernel_rfl) (by kernel_rfl) (by kernel_rfl)
  have tW := typeOfW
  have tE := typeOfE
  have mA := mAssignable
  have aW := assignableW
  have aE := assignableE
  have vE := valueOfE
  have f6 := valueOfP
  have f7 := typeP
  have mK := mKind
  have mE := mElem
  have mI := mImplements
  have mU := mUnwrap
  have kP := kindP
  have kE := kindE
  have eP := elemP
  have iE := implementsE
  have nA := noAsW
  have uW := unwrapW
  have n8 := isNilP ⟨w.heap.size, 0, none⟩ t ((w.alloc (.cells #[.pointer (some t)] 136)).alloc (.cells #[.pointer (some ⟨7, 136, none⟩), .pointer (some ⟨w.heap.size, 0, none⟩), .int .u64 150] 150)) (by simp)
  have hlt : 4 < w.heap.size := by
    have := World.block_lt_of_cell? w ⟨4, 0, none⟩ (by rw [hg])
    exact this
  have hgl : g < w.heap.size := World.block_lt_of_cell? w ⟨g, 1, none⟩ (by rw [hc])
  have htl : t.block < w.heap.size := World.block_lt_of_cell? w t (by rw [ht0])
  have hg2 : ((w.alloc (.cells #[.pointer (some t)] 136)).alloc (.cells #[.pointer (some ⟨7, 136, none⟩), .pointer (some ⟨w.heap.size, 0, none⟩), .int .u64 150] 150)).cell? ⟨4, 0, none⟩ = some (.iface 165 (.agg #[.pointer (some ⟨7, 90, none⟩)])) := by
    rw [World.cell?_alloc_lt _ _ ⟨4, 0, none⟩ (by simp; try omega), World.cell?_alloc_lt _ _ ⟨4, 0, none⟩ hlt]; exact hg
  have hc3 : (((w.alloc (.cells #[.pointer (some t)] 136)).alloc (.cells #[.pointer (some ⟨7, 136, none⟩), .pointer (some ⟨w.heap.size, 0, none⟩), .int .u64 150] 150)).alloc (.cells #[.pointer (some ⟨7, 136, none⟩), .pointer (some ⟨w.heap.size, 0, none⟩), .int .u64 150] 150)).cell? ⟨g, 1, none⟩ = some (.int .i64 x) := by
    rw [World.cell?_alloc_lt _ _ ⟨g, 1, none⟩ (by simp; omega), World.cell?_alloc_lt _ _ ⟨g, 1, none⟩ (by simp; omega), World.cell?_alloc_lt _ _ ⟨g, 1, none⟩ hgl]; exact hc
  have el := elemVP ⟨w.heap.size, 0, none⟩ t (((w.alloc (.cells #[.pointer (some t)] 136)).alloc (.cells #[.pointer (some ⟨7, 136, none⟩), .pointer (some ⟨w.heap.size, 0, none⟩), .int .u64 150] 150)).alloc (.cells #[.pointer (some ⟨7, 136, none⟩), .pointer (some ⟨w.heap.size, 0, none⟩), .int .u64 150] 150)) (by rw [World.cell?_alloc_lt _ _ ⟨w.heap.size, 0, none⟩ (by simp; omega)]; simp)
  have st := setE t ⟨w.heap.size + 1 + 1 + 1, 0, none⟩ x old ((((w.alloc (.cells #[.pointer (some t)] 136)).alloc (.cells #[.pointer (some ⟨7, 136, none⟩), .pointer (some ⟨w.heap.size, 0, none⟩), .int .u64 150] 150)).alloc (.cells #[.pointer (some ⟨7, 136, none⟩), .pointer (some ⟨w.heap.size, 0, none⟩), .int .u64 150] 150)).alloc (.cells #[.int .i64 x] 31))
    (by rw [World.cell?_alloc_at _ _ _ _ (by simp)]; rfl)
    (by rw [World.cell?_alloc_lt _ _ t (by simp; omega), World.cell?_alloc_lt _ _ t (by simp; omega), World.cell?_alloc_lt _ _ t (by simp; omega), World.cell?_alloc_lt _ _ t htl]; exact ht0)
    (by rw [World.frozen?_alloc_old _ _ t (by simp; omega), World.frozen?_alloc_old _ _ t (by simp; omega), World.frozen?_alloc_old _ _ t (by simp; omega), World.frozen?_alloc_old _ _ t (Nat.ne_of_lt htl)]; exact hf0)
  clear hg hc ht0 hf0
  go_enter Tryz.func80, Tryz.ntmps80
  go_wp2
  refine wp_loop_rounds 2 ?_
  rw [rounds_succ]
  go_wp2
  rw [rounds_succ]
  go_wp2
  go_ret
  exact ⟨rfl, rfl⟩

/-- An error of wire's own, with its number. -/
def ErrV (w : World) (v : Value) (x : Nat) : Prop := ∃ g : Nat, v = .iface 130 (.pointer (some ⟨g, 0, none⟩)) ∧ w.cell? ⟨g, 1, none⟩ = some (.int .i64 x)
theorem ErrV.below {w w' : World} {v : Value} {x : Nat} (h : ErrV w v x) (hb : Below w.heap.size w w') : ErrV w' v x := by
  obtain ⟨g, hv, hc⟩ := h
  have := World.block_lt_of_cell? w ⟨g, 1, none⟩ (by rw [hc])
  exact ⟨g, hv, (hb.cell (p := ⟨g, 1, none⟩) this).trans hc⟩
set_option maxRecDepth 100000 in
set_option maxHeartbeats 4000000 in
theorem number_any (v : Value) (x : Nat) (w : World) (hg : ErrT w) (hv : ErrV w v x) :
    Calls Tryz.prog 68 #[v] w fun e w' => e = .returned (.int .i64 x) ∧ Below w.heap.size w w' := by
  obtain ⟨g, rfl, hc⟩ := hv
  have hlt : 4 < w.heap.size := World.block_lt_of_cell? w ⟨4, 0, none⟩ (by rw [hg])
  have hgl : g < w.heap.size := World.block_lt_of_cell? w ⟨g, 1, none⟩ (by rw [hc])
  have hgA : ErrT (w.alloc (.cells #[.int .i64 0] 31)) := (World.cell?_alloc_lt _ _ ⟨4, 0, none⟩ hlt).trans hg
  have hcA : (w.alloc (.cells #[.int .i64 0] 31)).cell? ⟨g, 1, none⟩ = some (.int .i64 x) := (World.cell?_alloc_lt _ _ ⟨g, 1, none⟩ hgl).trans hc
  have HA := Lib.hid (as_any g ⟨w.heap.size, 0, none⟩ x (.int .i64 0) (w.alloc (.cells #[.int .i64 0] 31)) hgA hcA (by simp) (by simp))
  clear hg hc hgA hcA
  go_enter Tryz.func68, Tryz.ntmps68
  go_wp2_with fail
  refine HA.out.mono ?_
  rintro e w1 ⟨rfl, rfl⟩
  go_wp2_with fail
  go_ret
  exact ⟨rfl, ((((((Below.refl _ _).alloc (Nat.le_refl _) _).alloc (by simp) _).alloc (by simp; omega) _).alloc (by simp; omega) _).alloc (by simp; omega) _)⟩
end Go.Proofs.YtkoegbjnhoecoaaGreatDoor
