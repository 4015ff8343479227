/- slices.Backward over the pending writes; the walk of Disk.Read. -/
import Derived.RangeFuncNested
import Derived.RangeFuncBound
import Derived.RangeFuncCalls
import Derived.RangeFuncLeaves
import Derived.RangeFuncBox
import Derived.Shelf.Abstract
import Derived.Shelf.RegionOpen
import Derived.OwnWalkIn
import Derived.TacticsInMore
import Derived.LoopNIn
import Derived.LoopIn
import Derived.Test.YtienbgfmhllgmaaRows
import Derived.Test.YtienbgfmhllgmaaKit
import Derived.Test.YtienbgfmhllgmaaMap
import Derived.Test.YtienbgfmhllgmaaDk1
import Derived.Test.YtienbgfmhllgmaaDk2
import Derived.Test.YtienbgfmhllgmaaDk4
namespace Go.Proofs.Ytienbgfmhllgmaa
open Go.Maps Go.RowKit Go.Shelf

attribute [local go_sem] Oper.semAt_some

namespace Dk
/-- What has come, of the writes zs, when k rounds are over: the last k, the last first. -/
def upto (zs : List Wr) (k : Nat) : List (Int × Wr) := (List.range k).map fun j => (((zs.length - 1 - j : Nat) : Int), zs[zs.length - 1 - j]?.getD (0, ⟨#[]⟩))
theorem upto_succ (zs : List Wr) (k : Nat) : upto zs (k + 1) = upto zs k ++ [(((zs.length - 1 - k : Nat) : Int), zs[zs.length - 1 - k]?.getD (0, ⟨#[]⟩))] := by simp [upto, List.range_succ]
theorem upto_length (zs : List Wr) (k : Nat) : (upto zs k).length = k := by simp [upto]

theorem puts_last (h : Int → Option Wr) (l : List Wr) (u : Wr) (i : Int) : puts h (l ++ [u]) i = if i = u.1 then some u else puts h l i := by rw [puts_append]; rfl
/-- None of the last k is of sector i: the others tell. -/
theorem puts_none (h : Int → Option Wr) (zs : List Wr) (i : Int) (k : Nat) (hk : k ≤ zs.length) (hn : ∀ y ∈ upto zs k, y.2.1 ≠ i) : puts h zs i = puts h (zs.take (zs.length - k)) i := by
  induction k with
  | zero => simp
  | succ k ih =>
    rw [upto_succ] at hn
    rw [ih (by omega) (fun y hy => hn y (by simp [hy]))]
    have hlt : zs.length - 1 - k < zs.length := by omega
    have := hn _ (List.mem_append_right _ (List.mem_singleton.2 rfl))
    simp only [List.getElem?_eq_getElem hlt, Option.getD_some] at this
    rw [show zs.length - k = (zs.length - 1 - k) + 1 by omega, List.take_succ_eq_append_getElem hlt, puts_last, if_neg (fun e => this e.symm), show zs.length - 1 - k = zs.length - (k + 1) by omega]
theorem puts_some (h : Int → Option Wr) (zs : List Wr) (i : Int) (k : Nat) (hk : k < zs.length) (hn : ∀ y ∈ upto zs k, y.2.1 ≠ i) (he : (zs[zs.length - 1 - k]?.getD (0, ⟨#[]⟩)).1 = i) : puts h zs i = some (zs[zs.length - 1 - k]?.getD (0, ⟨#[]⟩)) := by
  rw [puts_none h zs i k (by omega) hn]
  have hlt : zs.length - 1 - k < zs.length := by omega
  simp only [List.getElem?_eq_getElem hlt, Option.getD_some] at he ⊢
  rw [show zs.length - k = (zs.length - 1 - k) + 1 by omega, List.take_succ_eq_append_getElem hlt, puts_last, if_pos he.symm]
end Dk

set_option maxRecDepth 100000 in
set_option maxHeartbeats 2000000 in
/-- slices.Backward's closure: for every loop body that keeps what lay below n₀. -/
theorem back1_in (F : Fence) (n : Nat) (hF : F.fn 33) (hro : F.round = none) (hn : 1 ≤ n) (l Bs n₀ : Nat) (A : Option Addr) (c : Nat) (zs : List Dk.Wr) (hl : zs.length < 1000000) (hB : Bs < n₀) (J Jx : List (Int × Dk.Wr) → World → Prop)
    (hY : ∀ pre x W, J pre W → pre.length < zs.length → YieldAt F (n - 1) Try.prog l #[.int .i64 x.1, .agg #[.int .i64 x.2.1, .string x.2.2]] W fun e W' =>
      (e = .returned (.bool true) ∧ J (pre ++ [x]) W' ∧ Below n₀ W W') ∨ (e = .returned (.bool false) ∧ Jx (pre ++ [x]) W'))
    (W : World) (hBs : W.cell? ⟨Bs, 0, none⟩ = some (.slice A zs.length c))
    (hc : zs ≠ [] → ∃ g, A = some ⟨g, 0, none⟩ ∧ g < n₀ ∧ ∀ k (hk : k < zs.length), W.cell? ⟨g, k * 2, none⟩ = some (.int .i64 zs[k].1) ∧ W.cell? ⟨g, k * 2 + 1, none⟩ = some (.string zs[k].2)) (h0 : J [] W) :
    CallsIn F n Try.prog 33 #[.func (.yield l) #[] #[], .pointer (some ⟨Bs, 0, none⟩)] W fun e W' => (∃ v, e = .returned v) ∧
      ((∃ ys, ys = Dk.upto zs zs.length ∧ J ys W') ∨ (∃ pre, (∃ k, k ≤ zs.length ∧ pre = Dk.upto zs k) ∧ Jx pre W')) := by
  have HC := Lib.hid hc
  clear hc
  refine callsIn_of_wp Try.func33 rfl hF ?_ hro
  simp only [Try.ntmps33, List.size_toArray, List.length_cons, List.length_nil, Nat.reduceAdd, Nat.reduceSub, Array.replicate_succ, Array.replicate_zero, List.push_toArray, List.append_toArray, List.nil_append, List.cons_append]
  gi_wp2
  gi_loopw [3] (fun i wr => ∃ k : Nat, k ≤ zs.length ∧ i = .int .i64 ((zs.length : Int) - 1 - k) ∧ J (Dk.upto zs k) wr ∧ Below n₀ W wr)
    (fun i _ => (intOf i + 1).toNat)
  case atStart => exact ⟨0, Nat.zero_le _, by simp, h0, Below.refl _ _⟩
  case round =>
    obtain ⟨k, hk, rfl, hJs, hnx⟩ := hrel
    have hBr := (hnx.cell (p := ⟨Bs, 0, none⟩) hB).trans hBs
    by_cases hlt : k < zs.length
    · obtain ⟨g, rfl, hg, hcs⟩ := HC.out (by rintro h; simp [h] at hlt)
      have hlt2 : zs.length - 1 - k < zs.length := by omega
      obtain ⟨a1, a2⟩ := hcs _ hlt2
      have b1 := (hnx.cell (p := ⟨g, (zs.length - 1 - k) * 2, none⟩) hg).trans a1
      have b2 := (hnx.cell (p := ⟨g, (zs.length - 1 - k) * 2 + 1, none⟩) hg).trans a2
      have HU : Hid (Dk.upto zs (k + 1) = Dk.upto zs k ++ [(((zs.length - 1 - k : Nat) : Int), zs[zs.length - 1 - k])]) := by
        show _ = _
        rw [Dk.upto_succ, List.getElem?_eq_getElem hlt2, Option.getD_some]
      obtain ⟨fn, tmps, assign, body, hy, hR⟩ := hY _ (((zs.length - 1 - k : Nat) : Int), zs[zs.length - 1 - k]) wr hJs (by rw [Dk.upto_length]; exact hlt)
      have hi : ((zs.length : Int) - 1 - k) = ((zs.length - 1 - k : Nat) : Int) := by omega
      rw [hi]
      have HI := Lib.hid hi
      clear a1 a2 hcs hi
      dsimp only at hy hR
      generalize zs[zs.length - 1 - k] = u at *
      generalize hj : zs.length - 1 - k = j at *
      gi_wp2
      refine hR.mono ?_
      rintro e W3 (⟨rfl, hJ3, hk3⟩ | ⟨rfl, hJx3⟩)
      · gi_wp2
        go_roundw
        case rel => exact ⟨k + 1, by omega, by have := HI.out; congr 1; omega, by rw [HU.out]; exact hJ3, hnx.trans hk3⟩
        case measure => simp [intOf] <;> omega
      · gi_wp2
        refine bodyPost_ret (results_none rfl _ _ _) rfl ?_
        exact ⟨⟨_, rfl⟩, .inr ⟨_, ⟨k + 1, by omega, HU.out.symm⟩, hJx3⟩⟩
    · obtain rfl : k = zs.length := by omega
      gi_wp2
      go_end0
      exact ⟨⟨_, rfl⟩, .inl ⟨_, rfl, hJs⟩⟩

/-- slices.Backward(s): the slice value is boxed; the function value captures the box. -/
theorem back_in (F : Fence) (n : Nat) (hF : F.fn 25) (hro : F.round = none) (a : Option Addr) (len cap : Nat) (w : World) :
    CallsIn F n Try.prog 25 #[.slice a len cap] w fun e w' => e = .returned (.func (.func 33) #[] #[.pointer (some ⟨w.heap.size, 0, none⟩)]) ∧ w' = w.alloc (.cells #[.slice a len cap] 60) := by
  have hmf : ∀ fn first cap w, (Instr.makeFunc fn first cap).run Try.prog w = .ok (.func fn first cap) w := fun _ _ _ _ => rfl
  refine callsIn_of_wp Try.func25 rfl hF ?_ hro
  simp only [Try.ntmps25, List.size_toArray, List.length_cons, List.length_nil, Nat.reduceAdd, Nat.reduceSub, Array.replicate_succ, Array.replicate_zero, List.push_toArray, List.append_toArray, List.nil_append, List.cons_append]
  gi_wp2
  go_ret
  exact ⟨rfl, rfl⟩

theorem back_stops (F : Fence) (n : Nat) (hF : F.fn 33) (hro : F.round = none) (hn : 1 ≤ n) (Bs n₀ : Nat) (A : Option Addr) (c : Nat) (zs : List Dk.Wr) (hl : zs.length < 1000000) (w : World) (hB : Bs < n₀) (hn₀ : n₀ ≤ w.heap.size)
    (hBs : w.cell? ⟨Bs, 0, none⟩ = some (.slice A zs.length c))
    (hc : zs ≠ [] → ∃ g, A = some ⟨g, 0, none⟩ ∧ g < n₀ ∧ ∀ k (hk : k < zs.length), w.cell? ⟨g, k * 2, none⟩ = some (.int .i64 zs[k].1) ∧ w.cell? ⟨g, k * 2 + 1, none⟩ = some (.string zs[k].2)) :
    SeqStopsK F n Try.prog 33 #[.pointer (some ⟨Bs, 0, none⟩)] (fun x : Int × Dk.Wr => #[.int .i64 x.1, .agg #[.int .i64 x.2.1, .string x.2.2]]) (Below n₀) (fun ys => ys = Dk.upto zs zs.length)
      (fun pre => ∃ k, k ≤ zs.length ∧ pre = Dk.upto zs k) zs.length w := fun l J Jx W hW _ _ hY h0 =>
  back1_in F n hF hro hn l Bs n₀ A c zs hl hB J Jx hY W ((hW.cell (p := ⟨Bs, 0, none⟩) (Nat.lt_of_lt_of_le hB hn₀)).trans hBs)
    (fun hne => by
      obtain ⟨g, h1, h2, h3⟩ := hc hne
      exact ⟨g, h1, h2, fun k hk => ⟨(hW.cell (p := ⟨g, k * 2, none⟩) (Nat.lt_of_lt_of_le h2 hn₀)).trans (h3 k hk).1, (hW.cell (p := ⟨g, k * 2 + 1, none⟩) (Nat.lt_of_lt_of_le h2 hn₀)).trans (h3 k hk).2⟩⟩) h0

set_option maxRecDepth 100000 in
set_option maxHeartbeats 2000000 in
theorem dRead_any (bd : Nat) (s : Dk.St) (F : List Nat) (i : Int) (w : World) (hd : Dk.Of w bd s F) (hp : s.pend.length < 1000000) (hi : (Lit.int .i64 i).wf = true) :
    Calls Try.prog 14 #[.pointer (some ⟨bd, 0, none⟩), .int .i64 i] w fun e w' => e = .returned (.tuple #[.string (Dk.read s i).1, .int .i64 (Dk.read s i).2]) ∧ Below w.heap.size w w' := by
  obtain ⟨l, bm, pv, h1, h2, ⟨h3, hpw⟩, h4, h5, h6, hm, ho, rfl⟩ := hd
  by_cases hh : Dk.has s i = true
  · have HR : Hid (Dk.read s i = (Dk.at_ s i, 0)) := by simp [Hid, Dk.read, hh]
    rw [HR.out]
    obtain ⟨A, c, rfl, hlc, hA⟩ := Dk.row_cells ho
    have hlt := lt_of_block h1
    refine (callsIn_wide (n := 6)).1 ?_
    refine callsIn_of_wp_marks Try.func14 rfl trivial ?_ rfl
    simp only [Try.ntmps14, List.size_toArray, List.length_cons, List.length_nil, Nat.reduceAdd, Nat.reduceSub, Array.replicate_succ, Array.replicate_zero, List.push_toArray, List.append_toArray, List.nil_append, List.cons_append]
    have bI := ((Boxed.new w 3 (.int .i64 i)).alloc (.cells #[.string ⟨#[]⟩] 9)).alloc (.cells #[.int .i64 0] 25)
    have bS := (Boxed.new (w.alloc (.cells #[.int .i64 i] 3)) 9 (.string ⟨#[]⟩)).alloc (.cells #[.int .i64 0] 25)
    have bE := Boxed.new ((w.alloc (.cells #[.int .i64 i] 3)).alloc (.cells #[.string ⟨#[]⟩] 9)) 25 (.int .i64 0)
    simp only [World.size_alloc] at bS bE
    have hB0 : Below w.heap.size w (((w.alloc (.cells #[.int .i64 i] 3)).alloc (.cells #[.string ⟨#[]⟩] 9)).alloc (.cells #[.int .i64 0] 25)) := (((Below.refl _ w).alloc (Nat.le_refl _) _).alloc (by simp) _).alloc (by simp; omega) _
    have hsz : (((w.alloc (.cells #[.int .i64 i] 3)).alloc (.cells #[.string ⟨#[]⟩] 9)).alloc (.cells #[.int .i64 0] 25)).heap.size = w.heap.size + 3 := by simp
    have kd := (hB0.block bd hlt).trans h1
    have c4 : (((w.alloc (.cells #[.int .i64 i] 3)).alloc (.cells #[.string ⟨#[]⟩] 9)).alloc (.cells #[.int .i64 0] 25)).cell? ⟨bd, 4, none⟩ = some (.slice A s.pend.length c) := by rw [Dk.cell_of kd]; rfl
    have hA0 := Lib.hid hA
    have h1 := Lib.hid h1
    clear hA h2
    gi_wp2_with (first
      | (refine ⟨trivial, ?_⟩; gi_at_call 22; refine (callsIn_wide.2 (has_at true _ _ _ _ _ _ _ _ kd hh)).mono ?_; rintro e w' ⟨rfl, rfl⟩)
      | (refine ⟨trivial, ?_⟩; gi_at_call 25; refine (back_in Fence.wide _ trivial rfl _ _ _ _).mono ?_; rintro e w' ⟨rfl, rfl⟩))
    obtain ⟨W0, hW0⟩ : ∃ W0, (((w.alloc (.cells #[.int .i64 i] 3)).alloc (.cells #[.string ⟨#[]⟩] 9)).alloc (.cells #[.int .i64 0] 25)) = W0 := ⟨_, rfl⟩
    rw [hW0] at bI bS bE hB0 hsz kd c4 ⊢
    clear hW0
    have bB := Boxed.new W0 60 (.slice A s.pend.length c)
    have bI := bI.alloc (.cells #[.slice A s.pend.length c] 60)
    have bS := bS.alloc (.cells #[.slice A s.pend.length c] 60)
    have bE := bE.alloc (.cells #[.slice A s.pend.length c] 60)
    have hB1 := hB0.alloc hB0.size (.cells #[.slice A s.pend.length c] 60)
    have hsz1 : (W0.alloc (.cells #[.slice A s.pend.length c] 60)).heap.size = w.heap.size + 4 := by simp [hsz]
    generalize hW1 : W0.alloc (.cells #[.slice A s.pend.length c] 60) = W1 at *
    rw [hsz] at bB
    have hAW : s.pend ≠ [] → ∃ g, A = some ⟨g, 0, none⟩ ∧ g < w.heap.size + 4 ∧ ∀ k (hk : k < s.pend.length), W1.cell? ⟨g, k * 2, none⟩ = some (.int .i64 s.pend[k].1) ∧ W1.cell? ⟨g, k * 2 + 1, none⟩ = some (.string s.pend[k].2) := by
      intro hne
      obtain ⟨g, e1, hc⟩ := hA0.out hne
      have hg : g < w.heap.size := World.block_lt_of_cell? _ _ (hc 0 (List.length_pos_iff.2 hne)).1
      exact ⟨g, e1, by omega, fun k hk => ⟨(hB1.cell (p := ⟨g, k * 2, none⟩) hg).trans (hc k hk).1, (hB1.cell (p := ⟨g, k * 2 + 1, none⟩) hg).trans (hc k hk).2⟩⟩
    refine wpIn_rangeFunc_ownH (α := Int × Dk.Wr) rfl (by omega) (gf := 33) (lb := #[.pointer (some ⟨w.heap.size + 3, 0, none⟩)]) rfl trivial (enters_of Try.func33 (by kernel_rfl) rfl)
      (back_stops Fence.wide 5 trivial rfl (by omega) (w.heap.size + 3) (w.heap.size + 4) A c s.pend hp W1 (by omega) (by omega) bB.cell hAW) belowK_t (belowK_b (by omega)) (Below.refl _ _) (fun _ => rfl)
      (fun pre W => ((∀ y ∈ pre, y.2.1 ≠ i) ∧ (Boxed W w.heap.size 3 (.int .i64 i) ∧ Boxed W (w.heap.size + 1) 9 (.string ⟨#[]⟩) ∧ Boxed W (w.heap.size + 2) 25 (.int .i64 0) ∧ Boxed W (w.heap.size + 3) 60 (.slice A s.pend.length c))) ∧ Below w.heap.size w W)
      (fun c pre W => (c = .ret ∧ ∃ pre' x, pre = pre' ++ [x] ∧ (∀ y ∈ pre', y.2.1 ≠ i) ∧ x.2.1 = i ∧ Boxed W (w.heap.size + 1) 9 (.string x.2.2) ∧ Boxed W (w.heap.size + 2) 25 (.int .i64 0)) ∧ Below w.heap.size w W)
      (OwnFrom.and (OwnFrom.and (ownFrom_pure _ _) (OwnFrom.and (Own.from (boxed_own _ _ _) _) (OwnFrom.and (Own.from (boxed_own _ _ _) _) (OwnFrom.and (Own.from (boxed_own _ _ _) _) (Own.from (boxed_own _ _ _) _))))) (ownFrom_below (Nat.le_refl _) (by omega)))
      (fun c => OwnFrom.and (fun pre X Y row hs hg hr => by
        obtain ⟨h1, pre', x, h2, h3, h4, h5, h6⟩ := hs
        exact ⟨h1, pre', x, h2, h3, h4, boxed_own (w.heap.size + 1) 9 (fun (_ : Unit) => Value.string x.2.2) () X Y row h5 hg (fun r e => (hr r e).2), boxed_own (w.heap.size + 2) 25 (fun (_ : Unit) => Value.int .i64 0) () X Y row h6 hg (fun r e => (hr r e).2)⟩) (ownFrom_below (Nat.le_refl _) (by omega)))
      ⟨⟨by simp, bI, bS, bE, bB⟩, hB1⟩
      (fun x a' W => ∃ Bx, w.heap.size + 3 < Bx ∧ W.heap[Bx]? = some (.cells #[.int .i64 x.2.1, .string x.2.2] 65 (0, 0)) ∧ a' = { tmps := #[.pointer (some ⟨bd, 0, none⟩), .int .i64 i, undef, .pointer (some ⟨w.heap.size, 0, none⟩), .pointer (some ⟨w.heap.size + 1, 0, none⟩), .pointer (some ⟨w.heap.size + 1 + 1, 0, none⟩), undef, .pointer (some ⟨Bx, 0, none⟩),
          .pointer (some ⟨bd, 0, none⟩), .int .i64 i, .bool true, .bool false, .pointer (some ⟨bd, 0, none⟩), .pointer (some ⟨bd, 0, none⟩), .pointer (some ⟨bd, 4, none⟩), .slice A s.pend.length c, .func (.func 33) #[] #[.pointer (some ⟨w.heap.size + 3, 0, none⟩)],
          .int .i64 x.1, .agg #[.int .i64 x.2.1, .string x.2.2], undef, undef, undef, undef, undef, undef, undef, undef, undef, undef, undef, undef, undef], defers := [] })
      (fun x a' _ X Y row hs hg hr => by
        obtain ⟨Bx, h1, h2, h3⟩ := hs
        exact ⟨Bx, h1, (hg.block Bx (Array.getElem?_eq_some_iff.1 h2).1 (fun e' => by obtain ⟨o, ho, hc⟩ := (hr Bx e'.symm).2; rw [h2] at ho; cases ho; cases hc)).trans h2, h3⟩)
      ?assign ?body ?done ?stop
    case assign =>
      rintro l pre x W K ⟨⟨hne, bI1, bS1, bE1, bB1⟩, hB1⟩ hK
      gi_wp2
      exact hK _ _ ((KeepsOthers.alloc _ _).from _) ((Below.refl _ W).alloc bB1.lt _) ⟨⟨hne, bI1.alloc _, bS1.alloc _, bE1.alloc _, bB1.alloc _⟩, hB1.alloc hB1.size _⟩ ⟨W.heap.size, bB1.lt, World.alloc_heap_new W _, rfl⟩
    case body =>
      rintro l pre x a' W hl ⟨r, hr⟩ ⟨⟨hne, bI1, bS1, bE1, bB1⟩, hB1⟩ ⟨Bx, hBx, bX, rfl⟩ hlt
      have cX0 : W.cell? ⟨Bx, 0, none⟩ = some (.int .i64 x.2.1) := by rw [Dk.cell_of bX]; rfl
      have cX1 : W.cell? ⟨Bx, 1, none⟩ = some (.string x.2.2) := by rw [Dk.cell_of bX]; rfl
      have cI := bI1.cell
      have cS := bS1.cell
      have cE := bE1.cell
      have fS := bS1.frozen
      have fE := bE1.frozen
      by_cases he : x.2.1 = i
      · gi_wp2
        exact ⟨((KeepsOthers.setCell _ _ _).trans (KeepsOthers.setCell _ _ _)).from _, ⟨rfl, pre, x, rfl, hne, he, (bS1.set _).other (by omega) _, (bE1.other (by omega) _).set _⟩, (hB1.setCell (p := ⟨w.heap.size + 1, 0, none⟩) (by simp) _).setCell (p := ⟨w.heap.size + 2, 0, none⟩) (by simp) _⟩
      · gi_wp2
        exact ⟨KeepsFrom.refl _ _, Below.refl _ _, ⟨fun y hy => by simp at hy; rcases hy with hy | rfl; exact hne y hy; exact he, bI1, bS1, bE1, bB1⟩, hB1⟩
    case done =>
      rintro D ys W hD rfl ⟨⟨hne, bI1, bS1, bE1, bB1⟩, hB2⟩ hK
      have cI := bI1.cell
      have cS := bS1.cell
      have cE := bE1.cell
      have fS := bS1.frozen
      have fE := bE1.frozen
      have hbd : W.heap[bd]? = some (Dk.blk s.lim.isSome l s.n bm (.slice A s.pend.length c)) := (hB2.block bd hlt).trans h1.out
      have hmW : MapOf W.drew 3 bm s.cnt (fun i => (s.held i).map Dk.enc) := MapOf.keep (w' := W.drew) hm (hB2.block bm hm.lt)
      have hv : ∃ a, ((s.held i).map Dk.enc).getD (.agg #[.int .i64 0, .string ⟨#[]⟩]) = .agg #[.int .i64 a, .string (Dk.at_ s i)] := by
        unfold Dk.at_
        rw [Dk.puts_none s.held s.pend i s.pend.length (Nat.le_refl _) hne, Nat.sub_self, List.take_zero, Dk.puts, List.foldl_nil]
        cases s.held i <;> exact ⟨_, rfl⟩
      obtain ⟨a0, hv⟩ := hv
      have hlk : (Instr.lookup 57 (.map (some bm)) (.int .i64 i) false).run Try.prog W.drew = .ok (.agg #[.int .i64 a0, .string (Dk.at_ s i)]) W.drew := by
        rw [hmW.look (t := 57) (z := .agg #[.int .i64 0, .string ⟨#[]⟩]) Try.underlying3 Try.underlying57 rfl false i hi]
        simp only [Bool.false_eq_true, if_false, hv]
      have hfl : ∀ (a : Int) (t : ByteArray) (w : World), (Instr.field 65 (.agg #[.int .i64 a, .string t]) 1).run Try.prog w = .ok (.string t) w := fun _ _ _ => rfl
      have c3 : W.cell? ⟨bd, 3, none⟩ = some (.map (some bm)) := by rw [Dk.cell_of hbd]; rfl
      clear hne hv hmW
      gi_wp2
      refine wpIn_wide.2 ?_
      refine wp_region_quiet_tail 6 (by kernel_rfl) (by kernel_rfl) ?_
      simp only [List.take_succ_cons, List.take_zero, List.drop_succ_cons, List.drop_zero]
      repeat (go_big_quiet_step (fail))
      refine wpQuiet_nil ?_
      go_wp2
      gi_wp2
      have hK1 := (KeepsOthers.setCell W ⟨w.heap.size + 1, 0, none⟩ (.string (Dk.at_ s i))).same D _ hK rfl
      have hK2 : ((W.setCell ⟨w.heap.size + 1, 0, none⟩ (.string (Dk.at_ s i))).setCell ⟨w.heap.size + 2, 0, none⟩ (.int .i64 0)).drew.heap[D]? = some (.deferred (some [])) := (KeepsOthers.setCell _ ⟨w.heap.size + 2, 0, none⟩ (.int .i64 0)).same D _ hK1 rfl
      have b4 := (bS1.set (.string (Dk.at_ s i))).other (B' := w.heap.size + 2) (by omega) (.int .i64 0)
      have b5 := (bE1.other (B' := w.heap.size + 1) (by omega) (.string (Dk.at_ s i))).set (.int .i64 0)
      refine ⟨by simp, .inl ⟨_, _, rfl, run_takeDeferred hK2, ?_⟩⟩
      have hc4 := cell_kept (W := ((W.setCell ⟨w.heap.size + 1, 0, none⟩ (.string (Dk.at_ s i))).setCell ⟨w.heap.size + 2, 0, none⟩ (.int .i64 0)).drew) b4.cell (grownBy_putObj' _ D (.deferred none)) (fun r e => by cases e; exact ⟨_, hK2, rfl⟩)
      have hc5 := cell_kept (W := ((W.setCell ⟨w.heap.size + 1, 0, none⟩ (.string (Dk.at_ s i))).setCell ⟨w.heap.size + 2, 0, none⟩ (.int .i64 0)).drew) b5.cell (grownBy_putObj' _ D (.deferred none)) (fun r e => by cases e; exact ⟨_, hK2, rfl⟩)
      refine ⟨.tuple #[.string (Dk.at_ s i), .int .i64 0], ?_, rfl, ?_⟩
      · simp [results, Try.f14, go_sem, hc4, hc5]
      · exact (below_drewN ((hB2.setCell (p := ⟨w.heap.size + 1, 0, none⟩) (by simp) (.string (Dk.at_ s i))).setCell (p := ⟨w.heap.size + 2, 0, none⟩) (by simp) (.int .i64 0)) 1).trans (belowK_b (w := w) (Nat.le_refl _) _ D _ _ (by omega) hK2 rfl rfl)
    case stop =>
      rintro D c pre W hD ⟨k, hk, rfl⟩ ⟨⟨rfl, pre', x, h2, h3, h4, h5, h6⟩, hB2⟩ hK
      gi_wp2
      refine ⟨by simp, .inl ⟨_, _, rfl, run_takeDeferred hK, ?_⟩⟩
      have hc4 := cell_kept h5.cell (grownBy_putObj' _ D (.deferred none)) (fun r e => by cases e; exact ⟨_, hK, rfl⟩)
      have hc5 := cell_kept h6.cell (grownBy_putObj' _ D (.deferred none)) (fun r e => by cases e; exact ⟨_, hK, rfl⟩)
      refine ⟨.tuple #[.string x.2.2, .int .i64 0], ?_, ?_, ?_⟩
      · simp [results, Try.f14, go_sem, hc4, hc5]
      · have hk0 : 0 < k := by
          have := congrArg List.length h2
          rw [Dk.upto_length] at this
          simp at this
          omega
        rw [show k = (k - 1) + 1 by omega, Dk.upto_succ] at h2
        obtain ⟨e1, e2⟩ := List.append_inj' h2 rfl
        subst e1
        injection e2 with e2 _
        subst e2
        rw [Dk.at_, Dk.puts_some s.held s.pend i (k - 1) (by omega) h3 h4]
      · exact hB2.trans (belowK_b (w := w) (Nat.le_refl _) W D _ _ (by omega) hK rfl rfl)
  · have hh' : Dk.has s i = false := by simpa using hh
    have HR : Hid (Dk.read s i = (⟨#[]⟩, 1)) := by simp [Hid, Dk.read, hh']
    rw [HR.out]
    have hB0 : Below w.heap.size w (((w.alloc (.cells #[.int .i64 i] 3)).alloc (.cells #[.string ⟨#[]⟩] 9)).alloc (.cells #[.int .i64 0] 25)) := (((Below.refl _ w).alloc (Nat.le_refl _) _).alloc (by simp) _).alloc (by simp; omega) _
    have kd := (hB0.block bd (lt_of_block h1)).trans h1
    clear h1 h2 hm ho
    refine (callsIn_wide (n := 6)).1 ?_
    refine callsIn_of_wp_marks Try.func14 rfl trivial ?_ rfl
    simp only [Try.ntmps14, List.size_toArray, List.length_cons, List.length_nil, Nat.reduceAdd, Nat.reduceSub, Array.replicate_succ, Array.replicate_zero, List.push_toArray, List.append_toArray, List.nil_append, List.cons_append]
    gi_wp2_with (refine ⟨trivial, ?_⟩; gi_at_call 22; refine (callsIn_wide.2 (has_at false _ _ _ _ _ _ _ _ kd hh')).mono ?_; rintro e w' ⟨rfl, rfl⟩)
    have b4 := (Boxed.new (w.alloc (.cells #[.int .i64 i] 3)) 9 (.string ⟨#[]⟩)).alloc (.cells #[.int .i64 1] 25)
    have b5 := Boxed.new ((w.alloc (.cells #[.int .i64 i] 3)).alloc (.cells #[.string ⟨#[]⟩] 9)) 25 (.int .i64 1)
    simp only [World.size_alloc] at b4 b5
    have hc4 := b4.cell
    have hc5 := b5.cell
    refine ⟨.tuple #[.string ⟨#[]⟩, .int .i64 1], ?_, rfl, (((Below.refl _ w).alloc (Nat.le_refl _) _).alloc (by simp) _).alloc (by simp; omega) _⟩
    simp [results, Try.f14, go_sem, hc4, hc5]
end Go.Proofs.Ytienbgfmhllgmaa
