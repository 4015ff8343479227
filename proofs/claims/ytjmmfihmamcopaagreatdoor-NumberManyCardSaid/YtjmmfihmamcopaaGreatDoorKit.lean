/- Small words and lemmas of my own, used by all proofs of this seat: how a slice reads as a list, returns, worlds. -/
import Derived.WalkKit
import Derived.WalkMore
import Derived.WalkSpells
import Derived.WalkLawsBesides
import Derived.Lib.Hide
import Derived.Handy
import Derived.Deep.LoopGhost
import Derived.Deep.DeepCutAuto
import Derived.Deep.CutBlock
import Derived.Deep.QuietTactic
import Derived.BigQuiet
import Derived.Deep.Draws
import Derived.Deep.AppendLies
import Derived.ShutString
import Derived.Lib.QuietBelow
import Derived.Deep.RegionWith
import Derived.Deep.RegionHeld3
import Derived.Deep.RegionLaw
import Derived.Laws.CopyOwn
import Derived.StillTailTactics
import Derived.Laws.AppendOwnNone
namespace Go.Proofs.YtjmmfihmamcopaaGreatDoor
open Go.RowKit

theorem ret_int {k : IntKind} {a b : Int} (h : a = b) : Ending.returned (.int k a) = .returned (.int k b) := by rw [h]
theorem ret_nat {k : IntKind} {a b : Nat} (h : a = b) : Ending.returned (.int k (a : Int)) = .returned (.int k (b : Int)) := by rw [h]
theorem ret_bool {a b : Bool} (h : a = b) : Ending.returned (.bool a) = .returned (.bool b) := by rw [h]

/-- Block number B and all below it are as they were, and draws besides. -/
theorem below_drewN {B : Nat} {a w : World} (h : Below B a w) (n : Nat) : Below B a (w.drewN n) := ⟨h.os, h.tape, h.output, h.size, h.block⟩
theorem below_of_drewN {B : Nat} {a : World} (n : Nat) : Below B a (a.drewN n) := below_drewN (Below.refl _ _) n

theorem drewN_ex0 (w : World) : ∃ n, w = w.drewN n := ⟨0, rfl⟩
theorem drewN_ex1 (w : World) (a : Nat) : ∃ n, w.drewN a = w.drewN n := ⟨a, rfl⟩
theorem drewN_ex2 (w : World) (a b : Nat) : ∃ n, (w.drewN a).drewN b = w.drewN n := ⟨a + b, World.drewN_drewN _ _ _⟩

/-- In every world of the class of a region whose callees may lay blocks. -/
theorem regrown_below (w : World) (p : Regrown) : Below w.heap.size w (Go.Sort.grow (redrawn w p.d) p.os) := below_regrown w p.d p.os
theorem calls_regrown {P : Program} {f : FuncId} {args : Array Value} {w : World} {p : Regrown} {v : Value}
    (h : Calls P f args (Go.Sort.grow (redrawn w p.d) p.os) fun e w' => e = .returned v ∧ Below (Go.Sort.grow (redrawn w p.d) p.os).heap.size (Go.Sort.grow (redrawn w p.d) p.os) w') :
    Calls P f args (Go.Sort.grow (redrawn w p.d) p.os) fun e w'' => e = .returned v ∧ ∃ p : Regrown, w'' = Go.Sort.grow (redrawn w p.d) p.os := Calls.regrown_of h

/-- A callee that leaves the world as it is, met in a quiet region. -/
theorem quiet_eq {P : Program} {f : FuncId} {args : Array Value} {w : World} {n : Nat} {v : Value}
    (h : Calls P f args (w.drewN n) fun e w' => e = .returned v ∧ w.drewN n = w') : Calls P f args (w.drewN n) fun e w'' => e = .returned v ∧ ∃ m, w'' = w.drewN m :=
  h.mono fun _ _ ⟨he, hm⟩ => ⟨he, n, hm.symm⟩
theorem quiet_eq2 {P : Program} {f : FuncId} {args : Array Value} {w : World} {a n : Nat} {v : Value}
    (h : Calls P f args (w.drewN (a + n)) fun e w' => e = .returned v ∧ w.drewN (a + n) = w') : Calls P f args (w.drewN (a + n)) fun e w'' => e = .returned v ∧ ∃ m, w'' = w.drewN (a + m) :=
  h.mono fun _ _ ⟨he, hm⟩ => ⟨he, n, hm.symm⟩

/-- The lexical walk of a quiet region, at the class of the one world w, is a still walk: so its cheap steps serve ahead of a tail that writes. -/
theorem still_of_quiet {P : Program} {o : Oper} {a : Act} {w : World} {K : Act → Prop} (h : o.quiet P a (fun w' => w' = w) K) : o.still P a w K := by
  obtain ⟨v, h1, h2⟩ := h
  have h3 := h1 w rfl
  unfold Oper.quietAt at h3
  unfold Oper.still
  generalize (execOp a.eval o).run P w = r at *
  cases r with
  | ok n w' =>
    cases n <;> simp only [Oper.quietUpon] at h3 <;> simp only [Oper.stillUpon]
    case value u => exact ⟨h3.1, h3.2 ▸ h2⟩
    case skip => exact ⟨h3.1, h3.2 ▸ h2⟩
    case enter f args => exact ⟨h3.1, v, h3.2, h2⟩
  | halt x w' => simp only [Oper.quietUpon] at h3
theorem wpStill_of_quiet {P : Program} {ops : Array Oper} {w : World} {Q : Act → Prop} : ∀ (l : List Oper) (a : Act), wpQuiet P ops (fun w' => w' = w) Q l a → wpStill P ops w Q l a := by
  intro l
  induction l with
  | nil => intro a h; exact h
  | cons o l ih =>
    intro a h
    unfold wpQuiet at h
    unfold wpStill
    split
    · rename_i hw
      rw [if_pos hw] at h
      exact Oper.still_mono (fun a' h' => ih a' h') (still_of_quiet h)
    · rename_i hw
      rw [if_neg hw] at h
      exact ih _ h

/-- A region that draws its order: n operations that only read or call quietly, then a tail in one order. -/
theorem wp_region_quiet_tail {P : Program} {id : Nat} {Q : Exit → Act → World → Prop} {a : Act} {w : World} {l : List Oper} (n : Nat) (hm : P.follows .mixedOrders = true) (hB : Region.lexTailB .any l.toArray n = true)
    (h : wpQuiet P l.toArray (fun w' => w' = w.drew) (fun a' => wpList P l.toArray Q (l.drop n) a' w.drew) (l.take n) a) : (Code.region id l.toArray true).wp P Q a w :=
  wp_region_still_tail n hm hB (wpStill_of_quiet _ _ h)

/-- What a value of type 'slice' says: it reads as the list xs (an element is one cell, written by f), below block B. -/
def Row {α : Type} (f : α → Value) (w : World) (B : Nat) (v : Value) (xs : List α) : Prop :=
  ∃ cap, xs.length ≤ cap ∧ cap ≤ maxLen ∧
    ((xs = [] ∧ ∃ A, v = .slice A 0 cap) ∨
     (∃ b off, v = .slice (some ⟨b, off, none⟩) xs.length cap ∧ b < B ∧ ∀ j (h : j < xs.length), w.cell? ⟨b, off + j, none⟩ = some (f xs[j])))

abbrev Ints := Row (Value.int .i64)

section
variable {α : Type} {f : α → Value} {w w' : World} {B B' : Nat} {v : Value} {xs : List α}
theorem Row.keep (h : Row f w B v xs) (hk : ∀ p : Addr, p.block < B → w'.cell? p = w.cell? p) : Row f w' B v xs := by
  obtain ⟨cap, h1, h2, h3⟩ := h
  refine ⟨cap, h1, h2, ?_⟩
  rcases h3 with h3 | ⟨b, off, hv, hb, hc⟩
  · exact .inl h3
  · exact .inr ⟨b, off, hv, hb, fun j hj => (hk _ hb).trans (hc j hj)⟩
theorem Row.more (h : Row f w B v xs) (hB : B ≤ B') : Row f w B' v xs := by
  obtain ⟨cap, h1, h2, h3⟩ := h
  refine ⟨cap, h1, h2, ?_⟩
  rcases h3 with h3 | ⟨b, off, hv, hb, hc⟩
  · exact .inl h3
  · exact .inr ⟨b, off, hv, by omega, hc⟩
theorem Row.below {C : Nat} (h : Row f w B v xs) (hb : Below C w w') (hB : B ≤ C) : Row f w' B v xs := h.keep fun _ hp => hb.cell (Nat.lt_of_lt_of_le hp hB)
theorem Row.drewN (h : Row f w B v xs) (n : Nat) : Row f (w.drewN n) B v xs := h
theorem Row.nil (f : α → Value) (w : World) (B : Nat) (A : Option Addr) (cap : Nat) (h : cap ≤ maxLen) : Row f w B (.slice A 0 cap) ([] : List α) := ⟨cap, by simp, h, .inl ⟨rfl, A, rfl⟩⟩
/-- Its shape, whatever the length; its cells, where there are any. -/
theorem Row.shape (h : Row f w B v xs) : ∃ A cap, v = .slice A xs.length cap ∧ xs.length ≤ cap ∧ cap ≤ 9223372036854775807 ∧
    (xs ≠ [] → ∃ b off, A = some ⟨b, off, none⟩ ∧ b < B ∧ ∀ j (h : j < xs.length), w.cell? ⟨b, off + j, none⟩ = some (f xs[j])) := by
  obtain ⟨cap, h1, h2, h3⟩ := h
  have h2' : cap ≤ 9223372036854775807 := by simpa [maxLen] using h2
  rcases h3 with ⟨rfl, A, rfl⟩ | ⟨b, off, rfl, hb, hc⟩
  · exact ⟨A, cap, rfl, by simp, h2', fun h => absurd rfl h⟩
  · exact ⟨_, cap, rfl, h1, h2', fun _ => ⟨b, off, rfl, hb, hc⟩⟩
/-- A row that the call itself owns reads as its list. -/
theorem Row.own {base : Nat} {e : TypeId} {n : Nat} (h : w.ownsRow base e 1 v n (xs.map f)) : Row f w w.heap.size v xs := by
  have hl : xs.length = n := by have := h.1; simpa using this
  rcases h.2 with ⟨rfl, hn⟩ | ⟨g, cap, cur, rfl, hb, hg, hnc, hcm, hcs, htake⟩
  · have : xs = [] := List.eq_nil_of_length_eq_zero (by omega)
    subst this
    exact Row.nil _ _ _ _ _ (by simp)
  · refine ⟨cap, by omega, hcm, .inr ⟨g, 0, by rw [hl], (Array.getElem?_eq_some_iff.1 hg).1, fun j hj => ?_⟩⟩
    have := h.cellAt j (by omega)
    simp only [Nat.zero_add]
    rw [this]
    simp [hj]
theorem Row.own_lt {base : Nat} {e : TypeId} {n : Nat} (h : w.ownsRow base e 1 v n (xs.map f)) (hB : w.heap.size ≤ B) : Row f w B v xs := (Row.own h).more hB
end

/-- The address of a piece, behind a name that the walk does not open. -/
def slAddr (a : Option Addr) (l m s : Nat) : Option Addr := if m = l then a else a.map (·.add (l * s))
theorem sliced_sl (a : Option Addr) (l h m s : Nat) : sliced a l h m s = .slice (slAddr a l m s) (h - l) (m - l) := rfl
attribute [go_sem ↓ high] sliced_sl

/-- A piece 'v[n:]' of a row. -/
theorem row_cut {α : Type} {f : α → Value} {w : World} {B n : Nat} {v : Value} {xs : List α} (h : Row f w B v xs) (hn : n ≤ xs.length) :
    ∀ A m c, v = .slice A m c → Row f w B (.slice (slAddr A n c 1) (m - n) (c - n)) (xs.drop n) := by
  intro A m c hv
  obtain ⟨cap, h1, h2, h3⟩ := h
  rcases h3 with ⟨rfl, A', rfl⟩ | ⟨b, off, rfl, hb, hc⟩
  · cases hv
    simp only [List.length_nil, Nat.le_zero_eq] at hn
    subst hn
    exact ⟨c, by simp, by simpa using h2, .inl ⟨by simp, _, rfl⟩⟩
  · cases hv
    by_cases hc0 : c = n
    · have : n = xs.length := by omega
      subst this
      exact ⟨c - xs.length, by simp, by omega, .inl ⟨by simp, some ⟨b, off, none⟩, by simp [slAddr, hc0]⟩⟩
    · refine ⟨c - n, by simp; omega, by omega, .inr ⟨b, off + n, ?_, hb, fun j hj => ?_⟩⟩
      · simp [slAddr, hc0, Addr.add_lit]
      · have := hc (n + j) (by simp at hj; omega)
        rw [List.getElem_drop, Nat.add_assoc]
        exact this

/-- A piece 'v[n:m]' of a row. -/
theorem row_cut2 {α : Type} {f : α → Value} {w : World} {B n m : Nat} {v : Value} {xs : List α} (h : Row f w B v xs) (hn : n ≤ m) (hm : m ≤ xs.length) :
    ∀ A l c, v = .slice A l c → Row f w B (.slice (slAddr A n c 1) (m - n) (c - n)) ((xs.drop n).take (m - n)) := by
  intro A l c hv
  obtain ⟨cap, h1, h2, h3⟩ := row_cut h (Nat.le_trans hn hm) A l c hv
  obtain ⟨A', c', h4, h5, _, h6⟩ := h.shape
  rw [hv] at h4
  injection h4 with e1 e2 e3
  rcases h3 with ⟨he, A'', h4⟩ | ⟨b, off, h4, hb, hc⟩
  · have hl : m - n = 0 := by
      have : xs.length ≤ n := by simpa using he
      omega
    rw [hl, he]
    exact ⟨cap, by simp, h2, .inl ⟨by simp, _, by injection h4 with e1 e2 e3; rw [e1, e3]⟩⟩
  · simp only [List.length_drop] at h4
    injection h4 with e1 e2 e3
    have hlen : ((xs.drop n).take (m - n)).length = m - n := by simp; omega
    refine ⟨cap, by simp at h1 ⊢; omega, h2, .inr ⟨b, off, by rw [e1, e3, hlen], hb, fun j hj => ?_⟩⟩
    rw [List.getElem_take]
    exact hc j (by simp at hj ⊢; omega)

theorem Row.mk_at {α : Type} {f : α → Value} {w : World} {B b off cap : Nat} {xs : List α} (h1 : xs.length ≤ cap) (h2 : cap ≤ maxLen) (hb : b < B)
    (hc : ∀ j (h : j < xs.length), w.cell? ⟨b, off + j, none⟩ = some (f xs[j])) : Row f w B (.slice (some ⟨b, off, none⟩) xs.length cap) xs :=
  ⟨cap, h1, h2, .inr ⟨b, off, rfl, hb, hc⟩⟩
/-- A row that was laid just now, all its elements written out. -/
theorem row_lit {α : Type} (f : α → Value) (xs : List α) (w : World) (e : TypeId) (hl : xs.length ≤ maxLen) :
    Row f (w.alloc (.cells (xs.map f).toArray e)) (w.heap.size + 1) (.slice (some ⟨w.heap.size, 0, none⟩) xs.length xs.length) xs := by
  refine Row.mk_at (Nat.le_refl _) hl (Nat.lt_succ_self _) (fun j hj => ?_)
  rw [Nat.zero_add, cell_of_row _ w.heap.size j _ e (0, 0) (heap_alloc_new w _)]
  simp [hj]
theorem Row.alloc {α : Type} {f : α → Value} {w : World} {B : Nat} {v : Value} {xs : List α} (h : Row f w B v xs) (hB : B ≤ w.heap.size) (o : Obj) : Row f (w.alloc o) B v xs :=
  h.below ((Below.refl B w).alloc hB o) (Nat.le_refl _)
theorem Row.step {α : Type} {f : α → Value} {w w' : World} {v : Value} {xs : List α} (h : Row f w w.heap.size v xs) (hb : Below w.heap.size w w') : Row f w' w'.heap.size v xs :=
  (h.below hb (Nat.le_refl _)).more hb.size
theorem Row.step_lit {α : Type} {f : α → Value} {w w' : World} {v : Value} {xs : List α} {o : Obj} (h : Row f w w.heap.size v xs) (hb : Below (w.alloc o).heap.size (w.alloc o) w') : Row f w' w'.heap.size v xs :=
  ((h.alloc (Nat.le_refl _) o).more (by simp)).step hb
theorem Row.step_lit2 {α : Type} {f : α → Value} {w w' : World} {v : Value} {xs : List α} {o o' : Obj} (h : Row f w w.heap.size v xs) (hb : Below ((w.alloc o).alloc o').heap.size ((w.alloc o).alloc o') w') : Row f w' w'.heap.size v xs :=
  (((h.alloc (Nat.le_refl _) o).more (by simp)).alloc (Nat.le_refl _) o').more (by simp) |>.step hb
theorem row_lit2a {α : Type} (f : α → Value) (xs : List α) (w : World) (e : TypeId) (o : Obj) (hl : xs.length ≤ maxLen) :
    Row f ((w.alloc (.cells (xs.map f).toArray e)).alloc o) (w.heap.size + 2) (.slice (some ⟨w.heap.size, 0, none⟩) xs.length xs.length) xs :=
  ((row_lit f xs w e hl).alloc (by simp) o).more (by omega)
theorem row_lit2b {α : Type} (f : α → Value) (xs : List α) (w : World) (e : TypeId) (o : Obj) (hl : xs.length ≤ maxLen) :
    Row f ((w.alloc o).alloc (.cells (xs.map f).toArray e)) (w.heap.size + 2) (.slice (some ⟨w.heap.size + 1, 0, none⟩) xs.length xs.length) xs := by
  have := row_lit f xs (w.alloc o) e hl
  simpa using this
theorem below_lit2 {B : Nat} {a w : World} (h : Below B a w) (hB : B ≤ w.heap.size) (o o' : Obj) {w' : World} {C : Nat} (h' : Below C ((w.alloc o).alloc o') w') (hC : B ≤ C) : Below B a w' :=
  ((h.alloc hB o).alloc (by simp; omega) o').trans (h'.mono hC)
theorem below_lit {B : Nat} {a w : World} (h : Below B a w) (hB : B ≤ w.heap.size) (o : Obj) {w' : World} {C : Nat} (h' : Below C (w.alloc o) w') (hC : B ≤ C) : Below B a w' :=
  (h.alloc hB o).trans (h'.mono hC)

/-- What is owned stays owned where nothing old has turned. -/
theorem own_below {w w' : World} {base : Nat} {e : TypeId} {size : Nat} {v : Value} {n : Nat} {xs : List Value} (h : w.ownsRow base e size v n xs) (hb : Below w.heap.size w w') : w'.ownsRow base e size v n xs := by
  refine ⟨h.1, ?_⟩
  rcases h.2 with h2 | ⟨g, cap, cur, hv, hbg, hg, rest⟩
  · exact .inl h2
  · exact .inr ⟨g, cap, cur, hv, hbg, (hb.block g (Array.getElem?_eq_some_iff.1 hg).1).trans hg, rest⟩

/-- 'out = append(out, x)', out nil or the call's own, x one cell that was just laid in a block of its own. -/
theorem wpList_app1 {P : Program} {w0 : World} {ops : Array Oper} {rest : List Oper} {o : Oper} {a : Act} {Q : Exit → Act → World → Prop} (hgd : o.guard = none) (s x : Operand) (t : TypeId)
    (ho : o.op = .call { callee := .builtin .append, args := #[s, x], argTypes := #[t, t] })
    (base : Nat) (e : TypeId) (i : TypeInfo) (z : Value) (bytes : Nat) (ht : P.underlying t = some (.slice e)) (hi : P.info? e = some i) (hz : i.zero = some z)
    (hsize : i.size = 1) (hby : i.bytes = bytes) (hzs : z.cells.size = 1)
    (v : Value) (n : Nat) (xs : List Value) (u : Value) (hu : u.oneCell' = true) (hs : a.eval s = v) (hx : a.eval x = .slice (some ⟨w0.heap.size, 0, none⟩) 1 1)
    (hown : w0.ownsRow base e 1 v n xs) (hb : base ≤ w0.heap.size)
    (h63 : n + 1 ≤ maxLen) (hbytes : (n + 1) * bytes ≤ 140737488355328)
    (h : ∀ v' w', w'.ownsRow base e 1 v' (n + 1) (xs ++ [u]) → Below base w0 w' → w0.grownBy w' v.ownBlock → wpList P ops Q rest (a.put o.dst v') w') :
    wpList P ops Q (o :: rest) a (w0.alloc (.cells #[u] e)) := by
  refine wpList_append_own _ hgd s x t ho base e i z 1 bytes ht hi hz hsize hby hzs (by decide) v n xs hs (hown.alloc _) ⟨w0.heap.size, 0, none⟩ 1 1 [u] hx rfl ?_ ?_ h63 hbytes (by simp; omega) ?_
  · intro j y hj
    match j, hj with
    | 0, hj => simp at hj; subst hj; simp [Addr.add]
  · intro y hy; simp at hy; subst hy; exact hu
  · intro v' w' h1 h2 _
    have hg : w0.grownBy w' v.ownBlock := ⟨h2.os, h2.tape, h2.output, Nat.le_trans (by simp) h2.size, fun k hk hne => (h2.block k (by simp; omega) hne).trans (Below.heap_alloc _ _ _ hk)⟩
    exact h v' w' h1 ((Below.refl _ _).grown hg hb (fun k hk => (hown.lt k hk).1)) hg

end Go.Proofs.YtjmmfihmamcopaaGreatDoor
