/- The walks of fix.judge, its closure, fix.Of. -/
import Derived.Test.YtgckcffgkgfakaaRows
import Derived.Test.YtgckcffgkgfakaaKit
import Derived.Test.YtgckcffgkgfakaaMap
import Derived.Test.YtgckcffgkgfakaaFxPl
import Derived.OneCell
namespace Go.Proofs.Ytgckcffgkgfakaa
open Go.Maps Go.RowKit

namespace Fx
theorem cells_setCell {w : World} {b j : Nat} {c : Array Value} {t : TypeId} (h : w.heap[b]? = some (.cells c t (0, 0))) (v : Value) : (w.setCell ⟨b, j, none⟩ v).heap[b]? = some (.cells (c.setIfInBounds j v) t (0, 0)) := by
  have hlt := lt_of_block h
  have h' : w.heap[b] = .cells c t (0, 0) := by simpa [Array.getElem?_eq_getElem hlt] using h
  show (w.heap.modify b _)[b]? = _
  rw [Array.getElem?_eq_getElem (by simpa using hlt), Array.getElem_modify_self, h']
  rfl
def ver (v : V) : Value := .agg #[.int .i64 v.1, .int .i64 v.2.1, .int .i64 v.2.2]
/-- The closure's value, and what its blocks hold when the states pre have come: none below base. -/
def Jud (w : World) (base S : Nat) (B : Int) (pre : List Int) (f : Value) : Prop :=
  ∃ b1 b3 b4 b5 bm last, f = .func (.func 23) #[] #[.pointer (some ⟨b5, 0, none⟩), .pointer (some ⟨b3, 0, none⟩), .pointer (some ⟨b4, 0, none⟩), .pointer (some ⟨b1, 0, none⟩)] ∧
    w.heap[b1]? = some (.cells #[.int .i64 B] 3 (0, 0)) ∧ w.heap[b3]? = some (.cells #[.map (some bm)] 52 (0, 0)) ∧ w.heap[b4]? = some (.cells #[.int .i64 last] 3 (0, 0)) ∧ w.heap[b5]? = some (.cells #[.int .i64 pre.length] 3 (0, 0)) ∧
    (0 < pre.length → last = pre.getLastD 0) ∧ MapOf w 3 bm pre.length (fun x => (fidx pre x).map fun (i : Nat) => Value.int .i64 (i : Int)) ∧
    (b1 < S ∧ b3 < S ∧ b4 < S ∧ b5 < S ∧ bm < S) ∧ base ≤ b1 ∧ base ≤ b3 ∧ base ≤ b4 ∧ base ≤ b5 ∧ base ≤ bm ∧ b1 ≠ b4 ∧ b1 ≠ b5 ∧ b1 ≠ bm ∧ b3 ≠ b4 ∧ b3 ≠ b5 ∧ b3 ≠ bm ∧ b4 ≠ b5 ∧ b4 ≠ bm ∧ b5 ≠ bm
theorem Jud.keepS {w w' : World} {base S : Nat} {B : Int} {pre : List Int} {f : Value} (h : Jud w base S B pre f) (hb : ∀ k, k < w.heap.size → k < S → w'.heap[k]? = w.heap[k]?) : Jud w' base S B pre f := by
  obtain ⟨b1, b3, b4, b5, bm, last, e, h1, h3, h4, h5, hl, hm, hu, hd⟩ := h
  exact ⟨b1, b3, b4, b5, bm, last, e, (hb _ (lt_of_block h1) hu.1).trans h1, (hb _ (lt_of_block h3) hu.2.1).trans h3, (hb _ (lt_of_block h4) hu.2.2.1).trans h4, (hb _ (lt_of_block h5) hu.2.2.2.1).trans h5, hl, hm.keep (hb _ hm.lt hu.2.2.2.2), hu, hd⟩
theorem Jud.keep {w w' : World} {base S : Nat} {B : Int} {pre : List Int} {f : Value} (h : Jud w base S B pre f) (hb : Below w.heap.size w w') : Jud w' base S B pre f := h.keepS fun k hk _ => hb.block k hk
theorem jud_below (w : World) (B : Int) : Below w.heap.size w (((((w.alloc (.cells #[.int .i64 B] 3)).alloc (.map #[] 0)).alloc (.cells #[.map (some (w.heap.size + 1))] 52)).alloc (.cells #[.int .i64 0] 3)).alloc (.cells #[.int .i64 0] 3)) :=
  (((((Below.refl _ _).alloc (Nat.le_refl _) _).alloc (by simp) _).alloc (by simp; omega) _).alloc (by simp; omega) _).alloc (by simp; omega) _
theorem jud_start (w : World) (B : Int) : Jud (((((w.alloc (.cells #[.int .i64 B] 3)).alloc (.map #[] 0)).alloc (.cells #[.map (some (w.heap.size + 1))] 52)).alloc (.cells #[.int .i64 0] 3)).alloc (.cells #[.int .i64 0] 3)) w.heap.size (w.heap.size + 5) B []
    (.func (.func 23) #[] #[.pointer (some ⟨w.heap.size + 1 + 1 + 1 + 1, 0, none⟩), .pointer (some ⟨w.heap.size + 1 + 1, 0, none⟩), .pointer (some ⟨w.heap.size + 1 + 1 + 1, 0, none⟩), .pointer (some ⟨w.heap.size, 0, none⟩)]) := by
  generalize hw1 : w.alloc (.cells #[.int .i64 B] 3) = w1
  have s1 : w1.heap.size = w.heap.size + 1 := by rw [← hw1]; simp
  have e1 : w1.heap[w.heap.size]? = some (.cells #[.int .i64 B] 3 (0, 0)) := by rw [← hw1]; exact heap_alloc_new w _
  generalize hw2 : w1.alloc (.map #[] 0) = w2
  have s2 : w2.heap.size = w.heap.size + 2 := by rw [← hw2]; simp [s1]
  have m2 : MapOf w2 3 (w.heap.size + 1) 0 (fun _ => none) := by rw [← hw2, ← s1]; exact MapOf.made w1 _
  have b2 : Below w1.heap.size w1 w2 := by rw [← hw2]; exact (Below.refl _ _).alloc (Nat.le_refl _) _
  generalize hw3 : w2.alloc (.cells #[.map (some (w.heap.size + 1))] 52) = w3
  have s3 : w3.heap.size = w.heap.size + 3 := by rw [← hw3]; simp [s2]
  have e3 : w3.heap[w.heap.size + 2]? = some (.cells #[.map (some (w.heap.size + 1))] 52 (0, 0)) := by rw [← hw3, ← s2]; exact heap_alloc_new w2 _
  have b3 : Below w2.heap.size w2 w3 := by rw [← hw3]; exact (Below.refl _ _).alloc (Nat.le_refl _) _
  generalize hw4 : w3.alloc (.cells #[.int .i64 0] 3) = w4
  have s4 : w4.heap.size = w.heap.size + 4 := by rw [← hw4]; simp [s3]
  have e4 : w4.heap[w.heap.size + 3]? = some (.cells #[.int .i64 0] 3 (0, 0)) := by rw [← hw4, ← s3]; exact heap_alloc_new w3 _
  have b4 : Below w3.heap.size w3 w4 := by rw [← hw4]; exact (Below.refl _ _).alloc (Nat.le_refl _) _
  generalize hw5 : w4.alloc (.cells #[.int .i64 0] 3) = w5
  have e5 : w5.heap[w.heap.size + 4]? = some (.cells #[.int .i64 0] 3 (0, 0)) := by rw [← hw5, ← s4]; exact heap_alloc_new w4 _
  have b5 : Below w4.heap.size w4 w5 := by rw [← hw5]; exact (Below.refl _ _).alloc (Nat.le_refl _) _
  refine ⟨w.heap.size, w.heap.size + 2, w.heap.size + 3, w.heap.size + 4, w.heap.size + 1, 0, rfl, ?_, ?_, ?_, e5, by simp, ?_, ⟨by omega, by omega, by omega, by omega, by omega⟩, by omega⟩
  · exact (b5.block _ (by omega)).trans ((b4.block _ (by omega)).trans ((b3.block _ (by omega)).trans ((b2.block _ (by omega)).trans e1)))
  · exact (b5.block _ (by omega)).trans ((b4.block _ (by omega)).trans e3)
  · exact (b5.block _ (by omega)).trans e4
  · exact m2.keep ((b5.block _ (by omega)).trans ((b4.block _ (by omega)).trans (b3.block _ (by omega))))
end Fx

set_option maxHeartbeats 1000000 in
theorem judge_any (b : Int) (w : World) :
    Calls Try.prog 19 #[.int .i64 b] w fun e w' => ∃ f, e = .returned f ∧ Fx.Jud w' w.heap.size (w.heap.size + 5) (max b 1) [] f ∧ Below w.heap.size w w' ∧ w.heap.size + 5 ≤ w'.heap.size := by
  have hmf : ∀ fn first cap w, (Instr.makeFunc fn first cap).run Try.prog w = .ok (.func fn first cap) w := fun _ _ _ _ => rfl
  have hmm := @run_makeMap Try.prog
  go_enter Try.func19, Try.ntmps19
  go_wp2
  all_goals go_ret
  · exact ⟨_, rfl, by rw [show max b 1 = 1 by omega]; exact Fx.jud_start w 1, Fx.jud_below w 1, by simp⟩
  · exact ⟨_, rfl, by rw [show max b 1 = b by omega]; exact Fx.jud_start w b, Fx.jud_below w b, by simp⟩

theorem wpList_look {w : World} {ops : Array Oper} {rest : List Oper} {o : Oper} {a : Act} {Q : Exit → Act → World → Prop}
    (hg : o.guard = none) (m x : Operand) (t : TypeId) (c : Bool) (hop : o.op = Op.lookup t m x c) {k e : TypeId} {b n : Nat} {g : Int → Option Value} (h : MapOf w k b n g) (hk : Try.prog.underlying k = some (.int .i64)) (ht : Try.prog.underlying t = some (.map k e)) {z : Value} (hz : (zeroValue e).run Try.prog w = .ok z w)
    (i : Int) (hi : (Lit.int .i64 i).wf = true) (hm : a.eval m = .map (some b)) (hx : a.eval x = .int .i64 i)
    (hK : wpList Try.prog ops Q rest (a.put o.dst (if c then .tuple #[(g i).getD z, .bool (g i).isSome] else (g i).getD z)) w) :
    wpList Try.prog ops Q (o :: rest) a w := by
  refine wpList_plain hg fun K' hK' => ?_
  have hrun := h.look hk ht hz c i hi
  unfold Oper.wp
  simp [execOp, hop, hm, hx, hrun, Result.andThen]
  exact hK' _ _ hK

set_option maxHeartbeats 1000000 in
theorem judge1_any (base S : Nat) (B : Int) (pre : List Int) (x : Int) (b1 b3 b4 b5 bm : Nat) (last : Int) (w : World) (hB : base ≤ w.heap.size) (hx : (Lit.int .i64 x).wf = true) (hpl : pre.length < 1000000)
    (h1 : w.heap[b1]? = some (.cells #[.int .i64 B] 3 (0, 0))) (h3 : w.heap[b3]? = some (.cells #[.map (some bm)] 52 (0, 0))) (h4 : w.heap[b4]? = some (.cells #[.int .i64 last] 3 (0, 0))) (h5 : w.heap[b5]? = some (.cells #[.int .i64 pre.length] 3 (0, 0)))
    (hl : 0 < pre.length → last = pre.getLastD 0) (hm : MapOf w 3 bm pre.length (fun x => (Fx.fidx pre x).map fun (i : Nat) => Value.int .i64 (i : Int)))
    (hd : (b1 < S ∧ b3 < S ∧ b4 < S ∧ b5 < S ∧ bm < S) ∧ base ≤ b1 ∧ base ≤ b3 ∧ base ≤ b4 ∧ base ≤ b5 ∧ base ≤ bm ∧ b1 ≠ b4 ∧ b1 ≠ b5 ∧ b1 ≠ bm ∧ b3 ≠ b4 ∧ b3 ≠ b5 ∧ b3 ≠ bm ∧ b4 ≠ b5 ∧ b4 ≠ bm ∧ b5 ≠ bm) :
    Calls Try.prog 23 #[.int .i64 x, .pointer (some ⟨b5, 0, none⟩), .pointer (some ⟨b3, 0, none⟩), .pointer (some ⟨b4, 0, none⟩), .pointer (some ⟨b1, 0, none⟩)] w fun e w' => e = .returned (Fx.ver (Fx.jv B pre x)) ∧ Below base w w' ∧ (∀ k, k < w.heap.size → S ≤ k → w'.heap[k]? = w.heap[k]?) ∧
      ((Fx.jv B pre x).1 = 0 → Fx.Jud w' base S B (pre ++ [x]) (.func (.func 23) #[] #[.pointer (some ⟨b5, 0, none⟩), .pointer (some ⟨b3, 0, none⟩), .pointer (some ⟨b4, 0, none⟩), .pointer (some ⟨b1, 0, none⟩)])) := by
  obtain ⟨hu, q1, q3, q4, q5, qm, d14, d15, d1m, d34, d35, d3m, d45, d4m, d5m⟩ := hd
  have c1 := cell_of_one h1
  have c3 := cell_of_one h3
  have c4 := cell_of_one h4
  have c5 := cell_of_one h5
  have f4 := free_of_one h4
  have f5 := free_of_one h5
  have l1 := lt_of_block h1
  have l3 := lt_of_block h3
  have l4 := lt_of_block h4
  have l5 := lt_of_block h5
  have k5 := one_setCell h5 (u := .int .i64 ((pre.length : Int) + 1))
  have hm2 : MapOf (w.setCell ⟨b5, 0, none⟩ (.int .i64 ((pre.length : Int) + 1))) 3 bm pre.length (fun x => (Fx.fidx pre x).map fun (i : Nat) => Value.int .i64 (i : Int)) := hm.keep (Below.heap_setCell _ _ _ _ (fun e => d5m e.symm))
  have sz2 : (w.setCell ⟨b5, 0, none⟩ (.int .i64 ((pre.length : Int) + 1))).heap.size = w.heap.size := World.size_setCell _ _ _
  have hlk := (hm2.alloc (.cells #[.int .i64 0, .int .i64 0, .int .i64 0] 25)).look (t := 52) (z := .int .i64 0) Try.underlying3 Try.underlying52 rfl true x hx
  have hb2 : ∀ a b c : Int, Below base w ((w.setCell ⟨b5, 0, none⟩ (.int .i64 ((pre.length : Int) + 1))).alloc (.cells #[.int .i64 a, .int .i64 b, .int .i64 c] 25)) := fun _ _ _ => ((Below.refl base w).setCell (p := ⟨b5, 0, none⟩) q5 _).alloc (by rw [sz2]; exact hB) _
  have hx5 : IntKind.i64.wrap ((pre.length : Int) + 1) = (pre.length : Int) + 1 := IntWalk.i64_in _ (by omega)
  cases hf : Fx.fidx pre x with
  | some i =>
    simp only [hf, Option.map_some, Option.getD_some, Option.isSome_some, ite_true, reduceIte] at hlk
    have hi := (Fx.fidx_some hf).1
    have HB : Hid ((∀ a b c : Int, Below base w ((w.setCell ⟨b5, 0, none⟩ (.int .i64 ((pre.length : Int) + 1))).alloc (.cells #[.int .i64 a, .int .i64 b, .int .i64 c] 25))) ∧ True) := ⟨hb2, trivial⟩
    by_cases hA : 0 < pre.length ∧ pre.getLastD 0 = x
    · have hv : Hid (Fx.jv B pre x = (1, (pre.length : Int) - 1, 0)) := by show _ = _; unfold Fx.jv; rw [if_pos hA]
      have hlx := (hl hA.1).trans hA.2
      have hp0 : (0 : Int) < (pre.length : Int) := by omega
      have hxe : (x == last) = true := by simp [hlx]
      clear hf hm hm2 hl h1 h3 h4 h5 k5 hi hA
      go_enter Try.func23, Try.ntmps23
      go_wp2_with fail
      refine bodyPost_ret (v := .agg #[.int .i64 1, .int .i64 ((pre.length : Int) - 1), .int .i64 0]) (by simp [results, Try.f23, go_sem]) rfl ?_
      refine ⟨by rw [hv.out]; rfl, HB.out.1 _ _ _, fun k hk hS => (Below.heap_alloc _ _ _ (by rw [sz2]; exact hk)).trans (Below.heap_setCell _ _ _ _ (by have := hu.2.2.2.1; simp; omega)), fun h => by rw [hv.out] at h; simp at h⟩
    · have hv : Hid (Fx.jv B pre x = (2, (i : Int), (pre.length : Int))) := by show _ = _; unfold Fx.jv; rw [if_neg hA, hf]
      have hxe : 0 < pre.length → (x == last) = false := by
        intro h0
        simp only [beq_eq_false_iff_ne, ne_eq]
        exact fun e => hA ⟨h0, by rw [← hl h0, e]⟩
      have hp0 : (0 : Int) < (pre.length : Int) := by omega
      have hxe := hxe (by omega)
      clear hf hm hm2 hl h1 h3 h4 h5 k5 hi hA
      go_enter Try.func23, Try.ntmps23
      go_wp2_with fail
      refine bodyPost_ret (v := .agg #[.int .i64 2, .int .i64 (i : Int), .int .i64 (pre.length : Int)]) (by simp [results, Try.f23, go_sem]) rfl ?_
      refine ⟨by rw [hv.out]; rfl, HB.out.1 _ _ _, fun k hk hS => (Below.heap_alloc _ _ _ (by rw [sz2]; exact hk)).trans (Below.heap_setCell _ _ _ _ (by have := hu.2.2.2.1; simp; omega)), fun h => by rw [hv.out] at h; simp at h⟩
  | none =>
    simp only [hf, Option.map_none, Option.getD_none, Option.isSome_none, ite_true, reduceIte] at hlk
    have HB : Hid ((∀ a b c : Int, Below base w ((w.setCell ⟨b5, 0, none⟩ (.int .i64 ((pre.length : Int) + 1))).alloc (.cells #[.int .i64 a, .int .i64 b, .int .i64 c] 25))) ∧ True) := ⟨hb2, trivial⟩
    have hnA : ¬ (0 < pre.length ∧ pre.getLastD 0 = x) := by
      rintro ⟨h0, h1⟩
      refine Fx.fidx_none.1 hf ?_
      rw [← h1]
      cases pre with
      | nil => simp at h0
      | cons a l =>
        have e : (a :: l).getLastD 0 = (a :: l).getLast (by simp) := by rw [List.getLastD_eq_getLast?, List.getLast?_eq_some_getLast (by simp)]; rfl
        rw [e]
        exact List.getLast_mem _
    have hxe : 0 < pre.length → (x == last) = false := by
      intro h0
      simp only [beq_eq_false_iff_ne, ne_eq]
      exact fun e => hnA ⟨h0, by rw [← hl h0, e]⟩
    by_cases hC : B ≤ pre.length
    · have hv : Hid (Fx.jv B pre x = (3, 0, 0)) := by show _ = _; unfold Fx.jv; rw [if_neg hnA, hf]; simp [hC]
      have hc1 : ((w.setCell ⟨b5, 0, none⟩ (.int .i64 ((pre.length : Int) + 1))).alloc (.cells #[.int .i64 0, .int .i64 0, .int .i64 0] 25)).cell? ⟨b1, 0, none⟩ = some (.int .i64 B) := by
        rw [World.cell?_alloc_past _ _ _ (by rw [sz2]; exact l1)]
        exact (World.cell?_setCell_other _ _ _ _ (by simp [Ne.symm d15])).trans c1
      by_cases hp : 0 < pre.length
      all_goals
        have hxe' := hxe
        clear hxe
        first | have hxe := hxe' hp | skip
        clear hxe'
        have hp0 : (0 : Int) < (pre.length : Int) ∨ ¬ (0 : Int) < (pre.length : Int) := by omega
        clear hf hm hm2 hl h1 h3 h4 h5 k5
        go_enter Try.func23, Try.ntmps23
        go_wp2_with fail
        refine bodyPost_ret (v := .agg #[.int .i64 3, .int .i64 0, .int .i64 0]) (by simp [results, Try.f23, go_sem]) rfl ?_
        refine ⟨by rw [hv.out]; rfl, HB.out.1 _ _ _, fun k hk hS => (Below.heap_alloc _ _ _ (by rw [sz2]; exact hk)).trans (Below.heap_setCell _ _ _ _ (by have := hu.2.2.2.1; simp; omega)), fun h => by rw [hv.out] at h; simp at h⟩
    · have hv : Hid (Fx.jv B pre x = (0, 0, 0)) := by show _ = _; unfold Fx.jv; rw [if_neg hnA, hf]; simp [hC]
      have hc1 : ((w.setCell ⟨b5, 0, none⟩ (.int .i64 ((pre.length : Int) + 1))).alloc (.cells #[.int .i64 0, .int .i64 0, .int .i64 0] 25)).cell? ⟨b1, 0, none⟩ = some (.int .i64 B) := by
        rw [World.cell?_alloc_past _ _ _ (by rw [sz2]; exact l1)]
        exact (World.cell?_setCell_other _ _ _ _ (by simp [Ne.symm d15])).trans c1
      obtain ⟨w3, hup, hm3, hg3⟩ := MapOf.update (hm2.alloc (.cells #[.int .i64 0, .int .i64 0, .int .i64 0] 25)) (t := 52) Try.underlying3 Try.underlying52 (by simp only [maxLen]; omega) x hx (.int .i64 (pre.length : Int))
      have old : ∀ k, k < w.heap.size → k ≠ b5 → k ≠ bm → w3.heap[k]? = w.heap[k]? := fun k hk h5' hm' =>
        (hg3.block k (by simp; omega) (fun e => hm' (by injection e))).trans ((Below.heap_alloc _ _ _ (by rw [sz2]; exact hk)).trans (Below.heap_setCell _ _ _ _ h5'))
      have n1 := (old b1 l1 d15 d1m).trans h1
      have n3 := (old b3 l3 d35 d3m).trans h3
      have n4 := (old b4 l4 d45 d4m).trans h4
      have n5 : w3.heap[b5]? = some (.cells #[.int .i64 ((pre.length : Int) + 1)] 3 (0, 0)) := (hg3.block b5 (by simp; omega) (fun e => d5m (by injection e))).trans ((Below.heap_alloc _ _ _ (by rw [sz2]; exact l5)).trans k5)
      have nr : w3.heap[w.heap.size]? = some (.cells #[.int .i64 0, .int .i64 0, .int .i64 0] 25 (0, 0)) := by
        refine (hg3.block w.heap.size (by simp) (fun e => by injection e with e; have := hm.lt; omega)).trans ?_
        have := heap_alloc_new (w.setCell ⟨b5, 0, none⟩ (.int .i64 ((pre.length : Int) + 1))) (.cells #[.int .i64 0, .int .i64 0, .int .i64 0] 25)
        rwa [sz2] at this
      have m4 := free_of_one n4
      have mc4 := cell_of_one n4
      have n4' := one_setCell n4 (u := .int .i64 x)
      have nr' : (w3.setCell ⟨b4, 0, none⟩ (.int .i64 x)).heap[w.heap.size]? = some (.cells #[.int .i64 0, .int .i64 0, .int .i64 0] 25 (0, 0)) := (Below.heap_setCell _ _ _ _ (by simp; omega)).trans nr
      have y0 : (w3.setCell ⟨b4, 0, none⟩ (.int .i64 x)).cell? ⟨w.heap.size, 0, none⟩ = some (.int .i64 0) := by simp [World.cell?, nr']
      have y1 : (w3.setCell ⟨b4, 0, none⟩ (.int .i64 x)).cell? ⟨w.heap.size, 1, none⟩ = some (.int .i64 0) := by simp [World.cell?, nr']
      have y2 : (w3.setCell ⟨b4, 0, none⟩ (.int .i64 x)).cell? ⟨w.heap.size, 2, none⟩ = some (.int .i64 0) := by simp [World.cell?, nr']
      have z0 : (w3.setCell ⟨b4, 0, none⟩ (.int .i64 x)).frozen? ⟨w.heap.size, 0, none⟩ = false := by simp [World.frozen?, nr']
      have z1 : (w3.setCell ⟨b4, 0, none⟩ (.int .i64 x)).frozen? ⟨w.heap.size, 1, none⟩ = false := by simp [World.frozen?, nr']
      have z2 : (w3.setCell ⟨b4, 0, none⟩ (.int .i64 x)).frozen? ⟨w.heap.size, 2, none⟩ = false := by simp [World.frozen?, nr']
      have hbel3 : Below base w w3 := by
        have g1 : Below base ((w.setCell ⟨b5, 0, none⟩ (.int .i64 ((pre.length : Int) + 1))).alloc (.cells #[.int .i64 0, .int .i64 0, .int .i64 0] 25)) w3 := (Below.refl base _).grown hg3 (by simp; omega) (fun k hk => by injection hk with hk; omega)
        exact (hb2 0 0 0).trans g1
      have HN := Lib.hid (And.intro n1 (And.intro n3 (And.intro n4' (And.intro n5 (And.intro hm3 (And.intro hbel3 nr'))))))
      have HF := Lib.hid hf
      have HO := Lib.hid old
      have HM := Lib.hid hm.lt
      by_cases hp : 0 < pre.length
      all_goals
        have hxe' := hxe
        clear hxe
        first | have hxe := hxe' hp | skip
        clear hxe'
        have hp0 : (0 : Int) < (pre.length : Int) ∨ ¬ (0 : Int) < (pre.length : Int) := by omega
        clear hf hm hm2 hl h1 h3 h4 h5 k5 old n1 n3 n4 n5 nr n4' nr' hm3 hg3 hbel3
        go_enter Try.func23, Try.ntmps23
        go_wp2_with fail
        obtain ⟨n1, n3, n4, n5, hm3, hbel3, nr⟩ := HN.out
        have r1 := Fx.cells_setCell nr (j := 0) (.int .i64 0)
        have r2 := Fx.cells_setCell r1 (j := 1) (.int .i64 0)
        have r3 := Fx.cells_setCell r2 (j := 2) (.int .i64 0)
        have oth : ∀ k, k ≠ w.heap.size → ((((w3.setCell ⟨b4, 0, none⟩ (.int .i64 x)).setCell ⟨w.heap.size, 0, none⟩ (.int .i64 0)).setCell ⟨w.heap.size, 1, none⟩ (.int .i64 0)).setCell ⟨w.heap.size, 2, none⟩ (.int .i64 0)).heap[k]? = (w3.setCell ⟨b4, 0, none⟩ (.int .i64 x)).heap[k]? := fun k hk => by
          rw [Below.heap_setCell _ _ _ _ hk, Below.heap_setCell _ _ _ _ hk, Below.heap_setCell _ _ _ _ hk]
        have u0 : ((((w3.setCell ⟨b4, 0, none⟩ (.int .i64 x)).setCell ⟨w.heap.size, 0, none⟩ (.int .i64 0)).setCell ⟨w.heap.size, 1, none⟩ (.int .i64 0)).setCell ⟨w.heap.size, 2, none⟩ (.int .i64 0)).cell? ⟨w.heap.size, 0, none⟩ = some (.int .i64 0) := by simp only [World.cell?, r3]; rfl
        have u1 : ((((w3.setCell ⟨b4, 0, none⟩ (.int .i64 x)).setCell ⟨w.heap.size, 0, none⟩ (.int .i64 0)).setCell ⟨w.heap.size, 1, none⟩ (.int .i64 0)).setCell ⟨w.heap.size, 2, none⟩ (.int .i64 0)).cell? ⟨w.heap.size, 1, none⟩ = some (.int .i64 0) := by simp only [World.cell?, r3]; rfl
        have u2 : ((((w3.setCell ⟨b4, 0, none⟩ (.int .i64 x)).setCell ⟨w.heap.size, 0, none⟩ (.int .i64 0)).setCell ⟨w.heap.size, 1, none⟩ (.int .i64 0)).setCell ⟨w.heap.size, 2, none⟩ (.int .i64 0)).cell? ⟨w.heap.size, 2, none⟩ = some (.int .i64 0) := by simp only [World.cell?, r3]; rfl
        have hbel4 : Below base w ((((w3.setCell ⟨b4, 0, none⟩ (.int .i64 x)).setCell ⟨w.heap.size, 0, none⟩ (.int .i64 0)).setCell ⟨w.heap.size, 1, none⟩ (.int .i64 0)).setCell ⟨w.heap.size, 2, none⟩ (.int .i64 0)) :=
          (((hbel3.setCell (p := ⟨b4, 0, none⟩) q4 _).setCell (p := ⟨w.heap.size, 0, none⟩) hB _).setCell (p := ⟨w.heap.size, 1, none⟩) hB _).setCell (p := ⟨w.heap.size, 2, none⟩) hB _
        generalize (((w3.setCell ⟨b4, 0, none⟩ (.int .i64 x)).setCell ⟨w.heap.size, 0, none⟩ (.int .i64 0)).setCell ⟨w.heap.size, 1, none⟩ (.int .i64 0)).setCell ⟨w.heap.size, 2, none⟩ (.int .i64 0) = w9 at *
        refine bodyPost_ret (v := .agg #[.int .i64 0, .int .i64 0, .int .i64 0]) (by simp [results, Try.f23, go_sem, u0, u1, u2]) rfl ?_
        have hs : ∀ k, k ≠ b4 → (w3.setCell ⟨b4, 0, none⟩ (.int .i64 x)).heap[k]? = w3.heap[k]? := fun k hk => Below.heap_setCell _ _ _ _ hk
        refine ⟨by rw [hv.out]; rfl, hbel4, fun k hk hS => (oth k (by omega)).trans ((hs k (by have := hu.2.2.1; omega)).trans (HO.out k hk (by have := hu.2.2.2.1; omega) (by have := hu.2.2.2.2; omega))), fun _ => ⟨b1, b3, b4, b5, bm, x, rfl, ?_, ?_, ?_, ?_, by simp, ?_, ⟨hu, q1, q3, q4, q5, qm, d14, d15, d1m, d34, d35, d3m, d45, d4m, d5m⟩⟩⟩
        · exact ((oth b1 (by omega)).trans (hs b1 d14)).trans n1
        · exact ((oth b3 (by omega)).trans (hs b3 d34)).trans n3
        · exact (oth b4 (by omega)).trans n4
        · rw [List.length_append]
          exact ((oth b5 (by omega)).trans (hs b5 (Ne.symm d45))).trans n5
        · have hbm := (oth bm (by have := HM.out; omega)).trans (hs bm (Ne.symm d4m))
          rw [List.length_append]
          refine (hm3.keep hbm).congr (fun y => ?_)
          rw [Fx.fidx_snoc]
          by_cases hy : y = x
          · subst hy
            rw [if_pos rfl, HF.out]
            simp
          · rw [if_neg hy]
            cases Fx.fidx pre y with
            | some i => rfl
            | none => simp [Ne.symm hy]
end Go.Proofs.Ytgckcffgkgfakaa
