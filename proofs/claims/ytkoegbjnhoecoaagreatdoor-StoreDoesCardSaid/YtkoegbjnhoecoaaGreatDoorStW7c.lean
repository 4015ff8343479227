/- What a commit that the disk stopped leaves; posts at a panic that hang on the frame. -/
import Derived.Test.YtkoegbjnhoecoaaGreatDoorStW7b
import Derived.Test.YtkoegbjnhoecoaaGreatDoorHeadS
namespace Go.Proofs.YtkoegbjnhoecoaaGreatDoor
open Go.RowKit Tx

/-- Q, but at a panic: it is the store's own, the frame's deferred call and its result's cell are as they were, and the world is in F. -/
def PanQ (D : List Deferred) (p : Value) (F : World → Prop) (Q : Exit → Act → World → Prop) : Exit → Act → World → Prop
  | .panic c, a, w => c = deadV ∧ a.defers = D ∧ a.tmps[4]? = some p ∧ F w
  | e, a, w => Q e a w
theorem PanQ.imp {D : List Deferred} {p : Value} {F : World → Prop} {Q : Exit → Act → World → Prop} (h : ∀ a w, a.defers = D → a.tmps[4]? = some p → F w → Q (.panic deadV) a w) : ∀ e a w, PanQ D p F Q e a w → Q e a w := fun e a w hq => by
  cases e with
  | panic c =>
    obtain ⟨rfl, h1, h2, h3⟩ := (hq : c = deadV ∧ a.defers = D ∧ a.tmps[4]? = some p ∧ F w)
    exact h a w h1 h2 h3
  | _ => exact hq
theorem PanQ.normal {D : List Deferred} {p : Value} {F : World → Prop} {Q : Exit → Act → World → Prop} {a : Act} {w : World} (h : Q .normal a w) : PanQ D p F Q .normal a w := h
theorem PanQ.put {D : List Deferred} {p : Value} {F : World → Prop} {Q : Exit → Act → World → Prop} {d : Option Nat} {v : Value} (hd : d ≠ some 4) : ∀ c a w, PanQ D p F Q (.panic c) (a.put d v) w → PanQ D p F Q (.panic c) a w := fun c a w h => by
  obtain ⟨h1, h2, h3, h4⟩ := (h : c = deadV ∧ (a.put d v).defers = D ∧ (a.put d v).tmps[4]? = some p ∧ F w)
  refine (⟨h1, ?_, ?_, h4⟩ : c = deadV ∧ a.defers = D ∧ a.tmps[4]? = some p ∧ F w)
  · cases d <;> exact h2
  · cases d with
    | none => exact h3
    | some k =>
      have : k ≠ 4 := fun e => hd (by rw [e])
      simp only [Act.put] at h3
      rwa [Array.getElem?_setIfInBounds_ne this] at h3
/-- A commit stopped in the world w', begun at w: what a crash may leave. -/
def DeadF (B : Nat) (w0 w : World) (bd n : Nat) (d : Dk.St) (h0 h1 : Sq.Head) (T U : Bs) (RR : List Nat) (w' : World) : Prop :=
  ∃ d', Dk.InR B w0 w' bd d' RR ∧ Dk.Same RR w w' ∧ Base d d' ∧ Sq.Mid n d'.held d'.pend h0 h1 T U ∧ d'.cnt + d'.pend.length ≤ d.cnt + Sq.cnt U + 1 ∧ d.lim ≠ none ∧ Sq.Good n d'.held h0 h1 T ∧ (Dk.dead d.lim = true → d'.pend = [])
theorem DeadF.of_lay {B : Nat} {w0 w w' : World} {bd n : Nat} {d d' : Dk.St} {h0 h1 : Sq.Head} {T U : Bs} {RR : List Nat} {b : Nat} (hI : Dk.InR B w0 w' bd d' RR) (hS : Dk.Same RR w w') (hB : LaidB n b U d d') (hb : b = 1 - Sq.now h0 h1) (hG : Sq.Good n d.held h0 h1 T) (hU : U.length ≤ 64 * Sq.half n) : DeadF B w0 w bd n d h0 h1 T U RR w' := by
  obtain ⟨k, hk, hp⟩ := hB.pend
  refine ⟨d', hI, hS, hB.base, ?_, ?_, hB.lim, by rw [hB.held]; exact hG, hB.first⟩
  · rw [hB.held, hp, hb]
    exact hG.mid_lay (Nat.le_trans hk (Sq.cnt_le hU))
  · rw [hB.cnt, hp, Sq.lay_len]
    omega
theorem DeadF.post {B : Nat} {w0 w w4 w' : World} {bd n : Nat} {d : Dk.St} {h0 h1 : Sq.Head} {T U : Bs} {R : List Nat} {hb rc : Nat} (h : DeadF B w0 w4 bd n d h0 h1 T U (hb :: rc :: R) w') (hR : ∀ k ∈ R, k < w.heap.size) (hrc : w.heap.size ≤ rc) (h4 : Below w.heap.size w w4) (o : Obj) (v : Value) :
    (∀ k ∈ R, ((w'.alloc o).setCell ⟨rc, 0, none⟩ v).heap[k]? = w.heap[k]?) ∧ ∃ d', Dk.InR B w0 ((w'.alloc o).setCell ⟨rc, 0, none⟩ v) bd d' R ∧ Base d d' ∧ Sq.Mid n d'.held d'.pend h0 h1 T U ∧ d'.cnt + d'.pend.length ≤ d.cnt + Sq.cnt U + 1 ∧ d.lim ≠ none ∧ Sq.Good n d'.held h0 h1 T ∧ (Dk.dead d.lim = true → d'.pend = []) := by
  obtain ⟨d', hI, hS, k1, k2, k3, k4⟩ := h
  refine ⟨fun k hk => ?_, d', hI.turn (((Moved.refl _ _).alloc o).setCell rc 0 v (.inl (by simp))) (fun k hk => ⟨.inl (by simp [hk]), ?_⟩), k1, k2, k3, k4⟩
  · have hkl := hR k hk
    have hk5 := (hI.2.2.1 k (by simp [hk])).1
    rw [set_other0 o v hk5 (by omega), hS k (by simp [hk]), h4.block k hkl]
  · have hk5 := (hI.2.2.1 k (by simp [hk])).1
    rw [World.size_setCell]
    have : (w'.alloc o).heap.size = w'.heap.size + 1 := by simp
    omega
theorem rowC_to {α : Type} {n : Nat} {f : α → List Value} {w w' : World} {B B' : Nat} {v : Value} {xs : List α} (h : RowC n f w B v xs)
    (hk : ∀ b, v.ownBlock = some b → b < B → b < B' ∧ w'.heap[b]? = w.heap[b]?) : RowC n f w' B' v xs := by
  obtain ⟨cap, h1, h2, h3⟩ := h
  refine ⟨cap, h1, h2, ?_⟩
  rcases h3 with h3 | ⟨b, off, hv, hlt, hc⟩
  · exact .inl h3
  · refine .inr ⟨b, off, hv, (hk b (by rw [hv]; rfl) hlt).1, fun j hj i u hu => ?_⟩
    exact (World.cell?_of_block (a := ⟨b, off + j * n + i, none⟩) (hk b (by rw [hv]; rfl) hlt).2).trans (hc j hj i u hu)
theorem RowK.to {B : Nat} {R R' : List Nat} {sb sb' : Nat} {w0 w w' : World} {v : Value} {l : List Wr.F} (h : RowK B R sb w v l) (h0 : Below B w0 w) (h1 : Below B w0 w') (hB : B ≤ w'.heap.size) (hR : ∀ k ∈ R, k ≠ sb → (k ∈ R' ∧ k ≠ sb') ∧ k < w'.heap.size ∧ w'.heap[k]? = w.heap[k]?) : RowK B R' sb' w' v l :=
  ⟨rowC_ne h.1 (fun hx b hb _ => by
    rcases h.2.2 hx b hb with hk | ⟨hk, hne⟩
    · exact ⟨by omega, (h1.block b hk).trans (h0.block b hk).symm⟩
    · exact (hR b hk hne).2), h.2.1, fun hx k hk => (h.2.2 hx k hk).imp id fun ⟨a, b⟩ => (hR k a b).1⟩
theorem fin_ok {B : Nat} {w0 W w10 : World} {bd sb hb rc : Nat} {d : Dk.St} {g0 g1 : Sq.Head} {L : List Wr.F} {R : List Nat} {v fv0 : Value} (hI : Dk.InR B w0 W bd d (hb :: rc :: R)) (b10 : Below W.heap.size W w10) (ho : OwnC 29 2 ff W.heap.size w10 v L)
    (hS : w10.heap[sb]? = some (SBlk bd g0 g1 fv0)) (hsb : sb ∈ R) (hrc : rc ∉ R) (x : Value) (o : Obj) :
    StIn B w0 (((w10.setCell ⟨sb, 5, none⟩ v).setCell ⟨rc, 0, none⟩ x).alloc o) bd d sb g0 g1 L (v.ownBlock.toList ++ R) ∧ (∀ k ∈ R, k ≠ sb → (((w10.setCell ⟨sb, 5, none⟩ v).setCell ⟨rc, 0, none⟩ x).alloc o).heap[k]? = W.heap[k]?) ∧ ∃ fv, (((w10.setCell ⟨sb, 5, none⟩ v).setCell ⟨rc, 0, none⟩ x).alloc o).heap[sb]? = some (SBlk bd g0 g1 fv) ∧ ∀ k, fv.ownBlock = some k → k ∉ R := by
  have hne : sb ≠ rc := fun e => hrc (e ▸ hsb)
  have hsz : (((w10.setCell ⟨sb, 5, none⟩ v).setCell ⟨rc, 0, none⟩ x).alloc o).heap.size = w10.heap.size + 1 := by simp [World.setCell]
  have hoth : ∀ k, k ≠ sb → k ≠ rc → k < w10.heap.size → (((w10.setCell ⟨sb, 5, none⟩ v).setCell ⟨rc, 0, none⟩ x).alloc o).heap[k]? = w10.heap[k]? := fun k h1 h2 h3 => by
    rw [Below.heap_alloc _ _ _ (by simp only [World.size_setCell]; exact h3), Below.heap_setCell _ _ _ _ (fun e => h2 (by simpa using e)), Below.heap_setCell _ _ _ _ (fun e => h1 (by simpa using e))]
  have hsbl : sb < w10.heap.size := lt_of_block hS
  have hRl : ∀ k ∈ R, k < W.heap.size := fun k hk => (hI.2.2.1 k (by simp [hk])).1
  have hs10 := b10.size
  have hsbF : (((w10.setCell ⟨sb, 5, none⟩ v).setCell ⟨rc, 0, none⟩ x).alloc o).heap[sb]? = some (SBlk bd g0 g1 v) := by
    rw [Below.heap_alloc _ _ _ (by simp only [World.size_setCell]; exact hsbl), Below.heap_setCell _ _ _ _ (fun e => hne (by simpa using e))]
    simpa [SBlk] using wr_cells_set (j := 5) hS v
  refine ⟨⟨hI.turn ((((Moved.of_below b10 _).setCell sb 5 v (.inl (by simp [hsb]))).setCell rc 0 x (.inl (by simp))).alloc o) (fun k hk => ?_), by simp [hsb], v, hsbF, ?_, ho.nilOr, fun k hk => ?_⟩, fun k hk hks => ?_, v, hsbF, fun k hk hkR => ?_⟩
  · rw [hsz]
    rcases List.mem_append.1 hk with hk | hk
    · have := ho.lt k (by simpa using hk)
      exact ⟨.inr this.1, by omega⟩
    · have := hRl k hk
      exact ⟨.inl (by simp [hk]), by omega⟩
  · refine rowC_blk (ho.rowC ff_length) (by rw [hsz]; omega) (fun b hb hlt => hoth b ?_ ?_ hlt)
    · rintro rfl
      have := (ho.lt _ hb).1
      have := hRl _ hsb
      omega
    · rintro rfl
      have := (ho.lt _ hb).1
      have := (hI.2.2.1 _ (show b ∈ _ by simp)).1
      omega
  · have h1 := (ho.lt k hk).1
    refine ⟨by simp [hk], fun e => ?_⟩
    have := hRl sb hsb
    omega
  · have := hRl k hk
    rw [hoth k hks (fun e => hrc (e ▸ hk)) (by omega), b10.block k this]
  · have := (ho.lt k hk).1
    have := hRl k hkR
    omega
end Go.Proofs.YtkoegbjnhoecoaaGreatDoor
