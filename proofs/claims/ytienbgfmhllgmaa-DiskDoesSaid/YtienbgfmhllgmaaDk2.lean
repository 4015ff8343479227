/- The walks of Disk.Write, Len, Pending, Limit, New, over what a disk's blocks are. -/
import Derived.Test.YtienbgfmhllgmaaRows
import Derived.Test.YtienbgfmhllgmaaKit
import Derived.Test.YtienbgfmhllgmaaMap
import Derived.Test.YtienbgfmhllgmaaDk1
namespace Go.Proofs.Ytienbgfmhllgmaa
open Go.Maps Go.RowKit

/-- Only the blocks F, of what was, may have turned. -/
structure Moved (w w' : World) (F : List Nat) : Prop where
  os : w'.os = w.os
  tape : w'.tape = w.tape
  output : w'.output = w.output
  size : w.heap.size ≤ w'.heap.size
  block : ∀ k, k < w.heap.size → k ∉ F → w'.heap[k]? = w.heap[k]?

theorem Moved.refl (w : World) (F : List Nat) : Moved w w F := ⟨rfl, rfl, rfl, Nat.le_refl _, fun _ _ _ => rfl⟩
theorem Moved.trans {w w' w'' : World} {F F' : List Nat} (h : Moved w w' F) (h' : Moved w' w'' F') (hF : ∀ k ∈ F', k ∈ F ∨ w.heap.size ≤ k) : Moved w w'' F :=
  ⟨h'.os.trans h.os, h'.tape.trans h.tape, h'.output.trans h.output, Nat.le_trans h.size h'.size, fun k hk hn =>
    (h'.block k (Nat.lt_of_lt_of_le hk h.size) (fun hm => by rcases hF k hm with h1 | h1; exact hn h1; omega)).trans (h.block k hk hn)⟩
theorem Moved.of_grown {w w' : World} {r : Option Nat} {F : List Nat} (h : w.grownBy w' r) (hF : ∀ k, r = some k → k ∈ F) : Moved w w' F :=
  ⟨h.os, h.tape, h.output, h.size, fun k hk hn => h.block k hk (fun e => hn (hF k e.symm))⟩
theorem Moved.alloc {w w' : World} {F : List Nat} (h : Moved w w' F) (o : Obj) : Moved w (w'.alloc o) F :=
  ⟨h.os, h.tape, h.output, Nat.le_trans h.size (by simp), fun k hk hn => (Below.heap_alloc _ _ _ (Nat.lt_of_lt_of_le hk h.size)).trans (h.block k hk hn)⟩
theorem Moved.setCell {w w' : World} {F : List Nat} (h : Moved w w' F) (b j : Nat) (v : Value) (hb : b ∈ F ∨ w.heap.size ≤ b) : Moved w (w'.setCell ⟨b, j, none⟩ v) F :=
  ⟨h.os, h.tape, h.output, by rw [World.size_setCell]; exact h.size, fun k hk hn => (Below.heap_setCell _ _ _ _ (by rintro rfl; rcases hb with h1 | h1; exact hn h1; omega)).trans (h.block k hk hn)⟩
theorem Moved.drewN {w w' : World} {F : List Nat} (h : Moved w w' F) (n : Nat) : Moved w (w'.drewN n) F := ⟨h.os, h.tape, h.output, h.size, h.block⟩
theorem Moved.below {w w' : World} {F : List Nat} {B : Nat} (h : Moved w w' F) (hB : B ≤ w.heap.size) (hF : ∀ k ∈ F, B ≤ k) : Below B w w' :=
  ⟨h.os, h.tape, h.output, h.size, fun k hk => h.block k (Nat.lt_of_lt_of_le hk hB) (fun hm => by have := hF k hm; omega)⟩
theorem Moved.more {w w' : World} {F F' : List Nat} (h : Moved w w' F) (hF : ∀ k ∈ F, k ∈ F') : Moved w w' F' :=
  ⟨h.os, h.tape, h.output, h.size, fun k hk hn => h.block k hk (fun hm => hn (hF k hm))⟩
theorem Moved.of_below {w w' : World} (h : Below w.heap.size w w') (F : List Nat) : Moved w w' F := ⟨h.os, h.tape, h.output, h.size, fun k hk _ => h.block k hk⟩

theorem own_heap {w w' : World} {base : Nat} {e : TypeId} {size : Nat} {v : Value} {n : Nat} {xs : List Value} (h : w.ownsRow base e size v n xs) (hb : ∀ k, v.ownBlock = some k → w'.heap[k]? = w.heap[k]?) : w'.ownsRow base e size v n xs := by
  refine ⟨h.1, ?_⟩
  rcases h.2 with h2 | ⟨g, cap, cur, rfl, hbg, hg, rest⟩
  · exact .inl h2
  · exact .inr ⟨g, cap, cur, rfl, hbg, (hb g rfl).trans hg, rest⟩

namespace Dk
theorem Of.lt {w : World} {bd : Nat} {s : St} {F : List Nat} (h : Of w bd s F) : ∀ k ∈ F, k < w.heap.size := by
  obtain ⟨l, bm, pv, h1, _, _, _, _, _, hm, ho, rfl⟩ := h
  intro k hk
  simp only [List.mem_cons, Option.mem_toList] at hk
  rcases hk with rfl | rfl | hk
  · exact lt_of_block h1
  · exact hm.lt
  · exact (ho.lt k hk).2
theorem Of.mem {w : World} {bd : Nat} {s : St} {F : List Nat} (h : Of w bd s F) : bd ∈ F := by
  obtain ⟨l, bm, pv, h1, _, _, _, _, _, hm, ho, rfl⟩ := h
  simp
theorem Of.keep {w w' : World} {bd : Nat} {s : St} {F : List Nat} (h : Of w bd s F) (hk : ∀ k ∈ F, w'.heap[k]? = w.heap[k]?) : Of w' bd s F := by
  obtain ⟨l, bm, pv, h1, h2, h3, h4, h5, h6, hm, ho, rfl⟩ := h
  exact ⟨l, bm, pv, (hk _ (by simp)).trans h1, h2, h3, h4, h5, h6, hm.keep (hk _ (by simp)), own_heap ho (fun k hk' => hk k (by simp [hk'])), rfl⟩
theorem Of.moved {w w' : World} {bd : Nat} {s : St} {F G : List Nat} (h : Of w bd s F) (hm : Moved w w' G) (hd : ∀ k ∈ F, k ∉ G) : Of w' bd s F :=
  h.keep fun k hk => hm.block k (h.lt k hk) (hd k hk)
theorem Of.alloc {w : World} {bd : Nat} {s : St} {F : List Nat} (h : Of w bd s F) (o : Obj) : Of (w.alloc o) bd s F :=
  h.keep fun k hk => Below.heap_alloc _ _ _ (h.lt k hk)
theorem Of.below {w w' : World} {bd : Nat} {s : St} {F : List Nat} (h : Of w bd s F) (hb : Below w.heap.size w w') : Of w' bd s F :=
  h.keep fun k hk => hb.block k (h.lt k hk)

/-- What a call does to a disk: it is in the state s' then, and no block has turned but its own. -/
def Does (w : World) (bd : Nat) (F : List Nat) (s' : St) (w' : World) : Prop := ∃ F', Of w' bd s' F' ∧ Moved w w' F ∧ ∀ k ∈ F', k ∈ F ∨ w.heap.size ≤ k
theorem Of.does {w : World} {bd : Nat} {s : St} {F : List Nat} (h : Of w bd s F) : Does w bd F s w := ⟨F, h, Moved.refl _ _, fun _ hk => .inl hk⟩
end Dk

/-- Where what an append hands back lies: in the old block, or in a new one. -/
theorem append_own_blk {P : Program} (w : World) (base : Nat) (t ty e : TypeId) (i : TypeInfo) (z : Value) (size bytes : Nat) (ht : P.underlying t = some (.slice e)) (hi : P.info? e = some i) (hz : i.zero = some z)
    (hsize : i.size = size) (hby : i.bytes = bytes) (hzs : z.cells.size = size) (hsz : 0 < size)
    (v : Value) (n : Nat) (xs : List Value) (hown : w.ownsRow base e size v n xs)
    (a : Addr) (m c : Nat) (news : List Value) (hl : news.length = m * size) (hnews : ∀ j u, news[j]? = some u → w.cell? (a.add j) = some u) (h1 : ∀ u ∈ news, u.oneCell' = true)
    (h63 : n + m ≤ maxLen) (hbytes : (n + m) * bytes ≤ 140737488355328) (v' : Value) (w' : World) (hr' : (Builtin.append_ #[t, t] ty #[v, .slice (some a) m c]).run P w = .ok v' w') :
    ∀ k, v'.ownBlock = some k → v.ownBlock = some k ∨ w.heap.size ≤ k := by
  subst hsize
  subst hby
  have hsmall : n + m ≤ 9223372036854775807 := by simp only [maxLen] at h63; omega
  rcases hown.2 with ⟨rfl, rfl⟩ | ⟨g, cap, cur, rfl, hbg, hg, hnc, hcm, hcs, htake⟩
  · obtain ⟨v2, w2, hr, ho, _⟩ := run_append_own (P := P) w w.heap.size t ty e i z i.size i.bytes ht hi hz rfl rfl hzs hsz (.slice none 0 0) 0 [] (World.ownsRow_nil w w.heap.size e i.size) a m c news hl hnews h1 (by omega) (by simpa using hbytes) (Nat.le_refl _)
    rw [hr] at hr'
    injection hr' with e1 e2
    subst e1
    exact fun k hk => .inr (ho.lt k hk).1
  · by_cases hroom : n + m ≤ cap
    · have hfit : n * i.size + news.length ≤ cur.size := by rw [hl, hcs, ← Nat.add_mul]; exact Nat.mul_le_mul_right _ hroom
      rw [run_append_room (P := P) w t ty e i ht hi g n cap cur hg a m c news hl hnews h1 hroom hfit] at hr'
      injection hr' with e1 e2
      subst e1
      exact fun k hk => .inl hk
    · have holds : ∀ j u, xs[j]? = some u → w.cell? ((⟨g, 0, none⟩ : Addr).add j) = some u := hown.cells (g := g) rfl
      rw [run_append_grow (P := P) w t ty e i z ht hi hz ⟨g, 0, none⟩ n cap xs hown.1 holds a m c news hl hnews (by omega) (by omega) (growslice_fits (by omega) hbytes)] at hr'
      injection hr' with e1 e2
      subst e1
      intro k hk
      injection hk with hk
      exact .inr (by subst hk; exact Nat.le_refl _)

/-- 'out = append(out, p)', out nil or the call's own, p a pair of cells that was just laid in a block of its own. -/
theorem wpList_app2 {P : Program} {w0 : World} {ops : Array Oper} {rest : List Oper} {o : Oper} {a : Act} {Q : Exit → Act → World → Prop} (hgd : o.guard = none) (s x : Operand) (t : TypeId)
    (ho : o.op = .call { callee := .builtin .append, args := #[s, x], argTypes := #[t, t] })
    (base : Nat) (e : TypeId) (i : TypeInfo) (z : Value) (bytes : Nat) (ht : P.underlying t = some (.slice e)) (hi : P.info? e = some i) (hz : i.zero = some z)
    (hsize : i.size = 2) (hby : i.bytes = bytes) (hzs : z.cells.size = 2)
    (v : Value) (n : Nat) (xs : List Value) (u u' : Value) (hu : u.oneCell' = true) (hu' : u'.oneCell' = true) (hs : a.eval s = v) (g : Nat) (hge : g = w0.heap.size) (hx : a.eval x = .slice (some ⟨g, 0, none⟩) 1 1)
    (hown : w0.ownsRow base e 2 v n xs) (hb : base ≤ w0.heap.size)
    (h63 : n + 1 ≤ maxLen) (hbytes : (n + 1) * bytes ≤ 140737488355328)
    (h : ∀ v' w', w'.ownsRow base e 2 v' (n + 1) (xs ++ [u, u']) → w0.grownBy w' v.ownBlock → (∀ k, v'.ownBlock = some k → v.ownBlock = some k ∨ w0.heap.size ≤ k) → wpList P ops Q rest (a.put o.dst v') w') :
    wpList P ops Q (o :: rest) a (w0.alloc (.cells #[u, u'] e)) := by
  subst hge
  have hnews : ∀ j y, [u, u'][j]? = some y → (w0.alloc (.cells #[u, u'] e)).cell? ((⟨w0.heap.size, 0, none⟩ : Addr).add j) = some y := by
    intro j y hj
    rw [Addr.add_lit]
    simp only [Nat.zero_add]
    rw [cell_of_row _ w0.heap.size j _ e (0, 0) (heap_alloc_new w0 _)]
    simpa using hj
  have hone : ∀ y ∈ [u, u'], y.oneCell' = true := by
    intro y hy
    simp at hy
    rcases hy with rfl | rfl
    · exact hu
    · exact hu'
  obtain ⟨v', w', hr, h2, h3, _⟩ := run_append_own (P := P) (w0.alloc (.cells #[u, u'] e)) base t o.type e i z 2 bytes ht hi hz hsize hby hzs (by decide) v n xs (hown.alloc _) ⟨w0.heap.size, 0, none⟩ 1 1 [u, u'] rfl hnews hone h63 hbytes (by simp; omega)
  have h4 := append_own_blk (P := P) (w0.alloc (.cells #[u, u'] e)) base t o.type e i z 2 bytes ht hi hz hsize hby hzs (by decide) v n xs (hown.alloc _) ⟨w0.heap.size, 0, none⟩ 1 1 [u, u'] rfl hnews hone h63 hbytes v' w' hr
  have hg : w0.grownBy w' v.ownBlock := ⟨h3.os, h3.tape, h3.output, Nat.le_trans (by simp) h3.size, fun k hk hne => (h3.block k (by simp; omega) hne).trans (Below.heap_alloc _ _ _ hk)⟩
  refine wpList_plain hgd fun _ hK => ?_
  unfold Oper.wp execOp
  simp only [ho, resolve, invoke, builtin, Sem.run_bind, Sem.run_pure, Result.andThen_ok, List.map_toArray, List.map_cons, List.map_nil, hs, hx, hr]
  exact hK _ _ (h v' w' h2 hg (fun k hk => by rcases h4 k hk with h5 | h5; exact .inl h5; exact .inr (by simp at h5; omega)))
end Go.Proofs.Ytienbgfmhllgmaa
