/- A row of files' clone; (*Store).Load. -/
import Derived.Test.YtkoegbjnhoecoaaGreatDoorH5
import Derived.Test.YtkoegbjnhoecoaaGreatDoorWrM
namespace Go.Proofs.YtkoegbjnhoecoaaGreatDoor
open Go.RowKit Tx

/-- A row's value: nil, or one that lies somewhere. -/
def NilOr (v : Value) : Prop := v = .slice none 0 0 ∨ ∃ ad n c, v = .slice (some ad) n c
theorem OwnC.nilOr {base : Nat} {w : World} {v : Value} {l : List Wr.F} (h : OwnC 29 2 ff base w v l) : NilOr v := by
  rcases h.2 with ⟨rfl, _⟩ | ⟨g, cap, cur, rfl, _⟩
  · exact .inl rfl
  · exact .inr ⟨_, _, _, rfl⟩
theorem ff_ones (f : Wr.F) : ∀ y ∈ ff f, y.oneCell' = true := by
  intro y hy
  simp only [ff, List.mem_cons, List.not_mem_nil, or_false] at hy
  rcases hy with rfl | rfl <;> rfl
theorem src_row {w : World} {B : Nat} {v : Value} {l : List Wr.F} (hr : RowC 2 ff w B v l) (hv : NilOr v) : Src w 2 v l.length (l.flatMap ff) := by
  obtain ⟨A, c, rfl, h1, h2, h3⟩ := hr.shape
  rcases hv with hv | ⟨ad, n, c', hv⟩
  · injection hv with e1 e2 e3
    have : l = [] := List.eq_nil_of_length_eq_zero e2
    subst this e1 e3
    exact .inl ⟨rfl, rfl, rfl⟩
  · injection hv with e1 e2 e3
    subst e1
    refine .inr ⟨ad, c, rfl, flat_length ff_length l, fun j u hu => ?_⟩
    by_cases hl : l = []
    · subst hl; simp at hu
    · obtain ⟨b, off, e, _, _⟩ := h3 hl
      injection e with e
      subst e
      have := row_news hr 0 (List.length_pos_iff.2 hl) j u (by simpa using hu)
      simpa using this
set_option maxRecDepth 100000 in
set_option maxHeartbeats 4000000 in
theorem clone_any (v : Value) (l : List Wr.F) (w : World) (hr : RowC 2 ff w w.heap.size v l) (hv : NilOr v) (hl : l.length < 1000000) :
    Calls Tryz.prog 33 #[v] w fun e w' => ∃ v', e = .returned v' ∧ OwnC 29 2 ff w.heap.size w' v' l ∧ Below w.heap.size w w' := by
  have hsrc := src_row hr hv
  have hnil : ∀ w : World, (binOp BinOp.eql 30 (.slice none 0 0) (.slice none 0 0)).run Tryz.prog w = .ok (.bool true) w := fun _ => by kernel_rfl
  have hsome : ∀ (ad : Addr) (n c : Nat) (w : World), (binOp BinOp.eql 30 (.slice (some ad) n c) (.slice none 0 0)).run Tryz.prog w = .ok (.bool false) w := fun _ _ _ _ => by kernel_rfl
  rcases hv with rfl | ⟨ad, n, c, rfl⟩
  · have : l = [] := by
      obtain ⟨A, c, e, _⟩ := hr.shape
      injection e with e1 e2 e3
      exact List.eq_nil_of_length_eq_zero e2.symm
    subst this
    clear hr hsrc
    go_enter Tryz.func33, Tryz.ntmps33
    go_wp2_with fail
    go_ret
    exact ⟨_, rfl, OwnC.nil _ _ _ _ _, Below.refl _ _⟩
  · obtain ⟨i0, hi0, hz0, hz1, hz2⟩ := info_parts fileInfo
    have hmade := OwnC.made 29 2 ff w.heap.size w (Nat.le_refl _)
    have hba := (Below.refl w.heap.size w).alloc (Nat.le_refl _) (.cells #[] 29)
    have HSRC := Lib.hid (show Src (w.alloc (.cells #[] 29)) 2 (.slice (some ad) n c) l.length (l.flatMap ff) from src_row (hr.below hba (Nat.le_refl _)) (.inr ⟨ad, n, c, rfl⟩))
    have HM := Lib.hid hmade
    have HB := Lib.hid hba
    clear hr hsrc hmade hba
    go_enter Tryz.func33, Tryz.ntmps33
    go_wp2_with (at_builtin; refine wpList_appRow (by rfl) (.tmp 5) (.tmp 6) 30 (by rfl) w.heap.size 29 i0 _ 2 32 Tryz.underlying30 hi0 hz0 hz1 hz2 (by rfl) (by decide) _ 0 [] (by rfl) HM.out (Nat.le_trans (Nat.le_refl _) HB.out.size) _ (by rfl) l.length (l.flatMap ff) HSRC.out (fun y hy => by obtain ⟨f, _, hf⟩ := List.mem_flatMap.1 hy; exact ff_ones f y hf) (by simp only [maxLen]; omega) (by omega) ?_; intro v' w' h1 h2 h3; rw [Nat.zero_add, List.nil_append] at h1)
    go_ret
    exact ⟨v', rfl, h1, HB.out.trans ((grown_below HM.out HB.out.size h2))⟩

theorem rowC_blk {α : Type} {n : Nat} {f : α → List Value} {w w' : World} {B B' : Nat} {v : Value} {xs : List α} (h : RowC n f w B v xs) (hB : B ≤ B')
    (hk : ∀ b, v.ownBlock = some b → b < B → w'.heap[b]? = w.heap[b]?) : RowC n f w' B' v xs := by
  obtain ⟨cap, h1, h2, h3⟩ := h
  refine ⟨cap, h1, h2, ?_⟩
  rcases h3 with h3 | ⟨b, off, hv, hlt, hc⟩
  · exact .inl h3
  · refine .inr ⟨b, off, hv, Nat.lt_of_lt_of_le hlt hB, fun j hj i u hu => ?_⟩
    exact (World.cell?_of_block (a := ⟨b, off + j * n + i, none⟩) (hk b (by rw [hv]; rfl) hlt)).trans (hc j hj i u hu)
/-- In the world w, behind block B, block sb is a store on the disk in block bd, with these heads and files; R: blocks of one's own, none the disk's. -/
structure StIn (B : Nat) (w0 w : World) (bd : Nat) (d : Dk.St) (sb : Nat) (h0 h1 : Sq.Head) (l : List Wr.F) (R : List Nat) : Prop where
  disk : Dk.InR B w0 w bd d R
  mem : sb ∈ R
  files : ∃ fv, w.heap[sb]? = some (SBlk bd h0 h1 fv) ∧ RowC 2 ff w w.heap.size fv l ∧ NilOr fv ∧ ∀ k, fv.ownBlock = some k → k ∈ R ∧ k ≠ sb
theorem StIn.below {B : Nat} {w0 w w' : World} {bd : Nat} {d : Dk.St} {sb : Nat} {h0 h1 : Sq.Head} {l : List Wr.F} {R : List Nat} (h : StIn B w0 w bd d sb h0 h1 l R) (hb : Below w.heap.size w w') : StIn B w0 w' bd d sb h0 h1 l R := by
  obtain ⟨fv, k1, k2, k3, k4⟩ := h.files
  exact ⟨(h.disk.below hb).1, h.mem, fv, (hb.block sb (lt_of_block k1)).trans k1, rowC_blk k2 hb.size (fun b _ hlt => hb.block b hlt), k3, k4⟩
/-- A row in another world: what it holds, where it holds anything, lies as it was. -/
theorem rowC_ne {α : Type} {n : Nat} {f : α → List Value} {w w' : World} {B B' : Nat} {v : Value} {xs : List α} (h : RowC n f w B v xs)
    (hk : xs ≠ [] → ∀ b, v.ownBlock = some b → b < B → b < B' ∧ w'.heap[b]? = w.heap[b]?) : RowC n f w' B' v xs := by
  obtain ⟨cap, h1, h2, h3⟩ := h
  refine ⟨cap, h1, h2, ?_⟩
  by_cases hx : xs = []
  · rcases h3 with h3 | ⟨b, off, hv, _⟩
    · exact .inl h3
    · subst hx
      exact .inl ⟨rfl, _, hv⟩
  · rcases h3 with h3 | ⟨b, off, hv, hlt, hc⟩
    · exact .inl h3
    · refine .inr ⟨b, off, hv, (hk hx b (by rw [hv]; rfl) hlt).1, fun j hj i u hu => ?_⟩
      exact (World.cell?_of_block (a := ⟨b, off + j * n + i, none⟩) (hk hx b (by rw [hv]; rfl) hlt).2).trans (hc j hj i u hu)
/-- A row that neither a disk nor a store is about to turn. -/
def RowK (B : Nat) (R : List Nat) (sb : Nat) (w : World) (v : Value) (l : List Wr.F) : Prop := RowC 2 ff w w.heap.size v l ∧ NilOr v ∧ (l ≠ [] → ∀ k, v.ownBlock = some k → k < B ∨ (k ∈ R ∧ k ≠ sb))
theorem RowK.keep {B : Nat} {R : List Nat} {sb : Nat} {w0 w w' : World} {v : Value} {l : List Wr.F} (h : RowK B R sb w v l) (h0 : Below B w0 w) (h1 : Below B w0 w') (hs : w.heap.size ≤ w'.heap.size) (hR : ∀ k ∈ R, k ≠ sb → w'.heap[k]? = w.heap[k]?) {R' : List Nat} (hR' : ∀ k ∈ R, k ∈ R') : RowK B R' sb w' v l :=
  ⟨rowC_ne h.1 (fun hx b hb hlt => ⟨Nat.lt_of_lt_of_le hlt hs, by
    rcases h.2.2 hx b hb with hk | ⟨hk, hne⟩
    · exact (h1.block b hk).trans (h0.block b hk).symm
    · exact hR b hk hne⟩), h.2.1, fun hx k hk => (h.2.2 hx k hk).imp id fun ⟨a, b⟩ => ⟨hR' k a, b⟩⟩
theorem load_any {B : Nat} {w0 w : World} {bd : Nat} {d : Dk.St} {sb : Nat} {h0 h1 : Sq.Head} {l : List Wr.F} {R : List Nat} (h : StIn B w0 w bd d sb h0 h1 l R) (hl : l.length < 1000000) :
    Calls Tryz.prog 15 #[.pointer (some ⟨sb, 0, none⟩)] w fun e w' => ∃ v', e = .returned v' ∧ OwnC 29 2 ff w.heap.size w' v' l ∧ Below w.heap.size w w' := by
  obtain ⟨fv, k1, k2, k3, _⟩ := h.files
  obtain ⟨_, _, _, _, _, c5, _⟩ := sblk_cells k1
  have hc := Lib.hid (clone_any fv l w k2 k3 hl)
  obtain ⟨A, c, rfl, _⟩ := k2.shape
  clear k1 k2 k3
  go_enter Tryz.func15, Tryz.ntmps15
  go_wp2_with fail
  refine hc.out.mono ?_
  rintro e w' ⟨v', rfl, h1, h2⟩
  go_wp2_with fail
  go_ret
  exact ⟨_, rfl, h1, h2⟩
end Go.Proofs.YtkoegbjnhoecoaaGreatDoor
