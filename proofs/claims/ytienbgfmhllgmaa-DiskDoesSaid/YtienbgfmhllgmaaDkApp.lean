/- 'v = append(v, x)', x one cell: and where what comes back lies. -/
import Derived.Test.YtienbgfmhllgmaaRows
import Derived.Test.YtienbgfmhllgmaaKit
import Derived.Test.YtienbgfmhllgmaaDk2
import Derived.Test.YtienbgfmhllgmaaDk8
import Derived.Test.YtienbgfmhllgmaaDkOne
namespace Go.Proofs.Ytienbgfmhllgmaa
open Go.Maps Go.RowKit

theorem wpList_app1b {P : Program} {w0 : World} {ops : Array Oper} {rest : List Oper} {o : Oper} {a : Act} {Q : Exit → Act → World → Prop} (hgd : o.guard = none) (s x : Operand) (t : TypeId)
    (ho : o.op = .call { callee := .builtin .append, args := #[s, x], argTypes := #[t, t] })
    (base : Nat) (e : TypeId) (i : TypeInfo) (z : Value) (bytes : Nat) (ht : P.underlying t = some (.slice e)) (hi : P.info? e = some i) (hz : i.zero = some z)
    (hsize : i.size = 1) (hby : i.bytes = bytes) (hzs : z.cells.size = 1)
    (v : Value) (n : Nat) (xs : List Value) (u : Value) (hu : u.oneCell' = true) (hs : a.eval s = v) (g : Nat) (hge : g = w0.heap.size) (hx : a.eval x = .slice (some ⟨g, 0, none⟩) 1 1)
    (hown : w0.ownsRow base e 1 v n xs) (hb : base ≤ w0.heap.size)
    (h63 : n + 1 ≤ maxLen) (hbytes : (n + 1) * bytes ≤ 140737488355328)
    (h : ∀ v' w', w'.ownsRow base e 1 v' (n + 1) (xs ++ [u]) → w0.grownBy w' v.ownBlock → (∀ k, v'.ownBlock = some k → v.ownBlock = some k ∨ w0.heap.size ≤ k) → wpList P ops Q rest (a.put o.dst v') w') :
    wpList P ops Q (o :: rest) a (w0.alloc (.cells #[u] e)) := by
  subst hge
  have hnews : ∀ j y, [u][j]? = some y → (w0.alloc (.cells #[u] e)).cell? ((⟨w0.heap.size, 0, none⟩ : Addr).add j) = some y := by
    intro j y hj
    rw [Addr.add_lit]
    simp only [Nat.zero_add]
    rw [cell_of_row _ w0.heap.size j _ e (0, 0) (heap_alloc_new w0 _)]
    simpa using hj
  have hone : ∀ y ∈ [u], y.oneCell' = true := by
    intro y hy
    simp at hy
    subst hy
    exact hu
  obtain ⟨v', w', hr, h2, h3, _⟩ := run_append_own (P := P) (w0.alloc (.cells #[u] e)) base t o.type e i z 1 bytes ht hi hz hsize hby hzs (by decide) v n xs (hown.alloc _) ⟨w0.heap.size, 0, none⟩ 1 1 [u] rfl hnews hone h63 hbytes (by simp; omega)
  have h4 := append_own_blk (P := P) (w0.alloc (.cells #[u] e)) base t o.type e i z 1 bytes ht hi hz hsize hby hzs (by decide) v n xs (hown.alloc _) ⟨w0.heap.size, 0, none⟩ 1 1 [u] rfl hnews hone h63 hbytes v' w' hr
  have hg : w0.grownBy w' v.ownBlock := ⟨h3.os, h3.tape, h3.output, Nat.le_trans (by simp) h3.size, fun k hk hne => (h3.block k (by simp; omega) hne).trans (Below.heap_alloc _ _ _ hk)⟩
  refine wpList_plain hgd fun _ hK => ?_
  unfold Oper.wp execOp
  simp only [ho, resolve, invoke, builtin, Sem.run_bind, Sem.run_pure, Result.andThen_ok, List.map_toArray, List.map_cons, List.map_nil, hs, hx, hr]
  exact hK _ _ (h v' w' h2 hg (fun k hk => by rcases h4 k hk with h5 | h5; exact .inl h5; exact .inr (by simp at h5; omega)))

theorem write_ok_in2R {B : Nat} {w0 w : World} {a b : Nat} {s t : Dk.St} {R : List Nat} (i : Int) (u : ByteArray) (h : Dk.In2R B w0 w a s b t R) (hp : s.pend.length < 1000000) (hl : s.lim = none) (ht : u.size ≤ 64) (hi0 : 0 ≤ i) (hi1 : i < s.n) (hn : s.n ≤ 4096) :
    Calls Try.prog 9 #[.pointer (some ⟨a, 0, none⟩), .int .i64 i, .string u] w fun e w' => e = .returned (.int .i64 0) ∧ Dk.In2R B w0 w' a { s with pend := s.pend ++ [(i, u)] } b t R ∧ Dk.Same R w w' := by
  have := write_in2R 0 i u h hp (by omega) (WalkArith.wf_i64 (by omega)) (by rw [Dk.write_ok s i u hi0 hi1 ht hl])
  rwa [Dk.write_ok s i u hi0 hi1 ht hl] at this
/-- .. at the second disk. -/
theorem write_ok_in2R' {B : Nat} {w0 w : World} {a b : Nat} {s t : Dk.St} {R : List Nat} (i : Int) (u : ByteArray) (h : Dk.In2R B w0 w a s b t R) (hp : t.pend.length < 1000000) (hl : t.lim = none) (ht : u.size ≤ 64) (hi0 : 0 ≤ i) (hi1 : i < t.n) (hn : t.n ≤ 4096) :
    Calls Try.prog 9 #[.pointer (some ⟨b, 0, none⟩), .int .i64 i, .string u] w fun e w' => e = .returned (.int .i64 0) ∧ Dk.In2R B w0 w' a s b { t with pend := t.pend ++ [(i, u)] } R ∧ Dk.Same R w w' :=
  (write_ok_in2R i u h.swap hp hl ht hi0 hi1 hn).mono fun _ _ ⟨h1, h2, h3⟩ => ⟨h1, h2.swap, h3⟩
theorem boolInfo : (Try.prog.info? 4).map (fun i => (i.zero, i.size, i.bytes)) = some (some (.bool false), 1, 1) := by kernel_rfl
theorem Dk.In2R.grown {B : Nat} {w0 w w' : World} {a b : Nat} {s t : Dk.St} {v v' : Value} {n : Nat} {xs : List Value} {e : TypeId} (h : Dk.In2R B w0 w a s b t v.ownBlock.toList) (hg : w.grownBy w' v.ownBlock) (ho : w'.ownsRow B e 1 v' n xs) (hb : ∀ k, v'.ownBlock = some k → v.ownBlock = some k ∨ w.heap.size ≤ k) :
    Dk.In2R B w0 w' a s b t v'.ownBlock.toList :=
  h.turn (Moved.of_grown hg (fun k hk => by simp [hk])) (fun k hk => by
    simp only [Option.mem_toList] at hk
    refine ⟨?_, (ho.lt k hk).2⟩
    rcases hb k hk with h1 | h1
    · exact .inl (by simp [h1])
    · exact .inr h1)
theorem own_same {w w' : World} {base : Nat} {e : TypeId} {size : Nat} {v : Value} {n : Nat} {xs : List Value} (h : w.ownsRow base e size v n xs) (hs : Dk.Same v.ownBlock.toList w w') : w'.ownsRow base e size v n xs :=
  own_heap h (fun k hk => hs k (by simp [hk]))
theorem Dk.kept_snoc (l : List Dk.Wr) (u : Dk.Wr) (ks : List Bool) (b : Bool) (h : l.length = ks.length) : Dk.kept (l ++ [u]) (ks ++ [b]) = Dk.kept l ks ++ (if b then [u] else []) := by
  induction l generalizing ks with
  | nil =>
    cases ks with
    | nil => cases b <;> rfl
    | cons c ks => simp at h
  | cons x l ih =>
    cases ks with
    | nil => simp at h
    | cons c ks =>
      have := ih ks (by simpa using h)
      simp only [List.cons_append, Dk.kept]
      rw [this]
      cases c <;> simp
theorem Dk.kept_all (l : List Dk.Wr) : Dk.kept l (List.replicate l.length true) = l := by
  induction l with
  | nil => rfl
  | cons x l ih => simp only [List.length_cons, List.replicate_succ, Dk.kept, if_true, ih]
end Go.Proofs.Ytienbgfmhllgmaa
