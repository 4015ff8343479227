/- The walk of stetlaw23.FixNames. -/
import Derived.Test.YtgckcffgkgfakaaRows
import Derived.Test.YtgckcffgkgfakaaKit
import Derived.Test.YtgckcffgkgfakaaIn
import Derived.Test.YtgckcffgkgfakaaApp1b
import Derived.Test.YtgckcffgkgfakaaFxPl2
import Derived.Test.YtgckcffgkgfakaaFxLaw
import Derived.Test.YtgckcffgkgfakaaFxFixed
import Derived.Test.YtgckcffgkgfakaaFxBounds
namespace Go.Proofs.Ytgckcffgkgfakaa
open Go.RowKit

theorem Fx.and16 (ad : Int) : 0 ≤ bits .and .i64 ad 65535 ∧ bits .and .i64 ad 65535 ≤ 65535 := by
  have h : (BitVec.ofInt 64 ad &&& BitVec.ofInt 64 65535).toNat ≤ 65535 := by
    rw [BitVec.toNat_and]
    exact Nat.le_trans Nat.and_le_right (by decide)
  show 0 ≤ IntKind.i64.wrap ((BitVec.ofInt 64 ad &&& BitVec.ofInt 64 65535).toNat : Int) ∧ IntKind.i64.wrap ((BitVec.ofInt 64 ad &&& BitVec.ofInt 64 65535).toNat : Int) ≤ 65535
  rw [IntWalk.i64_in _ (by omega)]
  omega
/-- Two rows of the call's own, in blocks of their own. -/
structure Fx.Two (B : Nat) (w0 w : World) (qa : Value) (na : Nat) (xa : List Value) (qb : Value) (nb : Nat) (xb : List Value) : Prop where
  a : w.ownsRow B 3 1 qa na xa
  b : w.ownsRow B 3 1 qb nb xb
  ne : ∀ j, qa.ownBlock = some j → qb.ownBlock ≠ some j
  bel : Below B w0 w
  size : B ≤ w.heap.size
theorem Fx.Two.swap {B : Nat} {w0 w : World} {qa qb : Value} {na nb : Nat} {xa xb : List Value} (h : Fx.Two B w0 w qa na xa qb nb xb) : Fx.Two B w0 w qb nb xb qa na xa :=
  ⟨h.b, h.a, fun j e1 e2 => h.ne j e2 e1, h.bel, h.size⟩
theorem Fx.Two.step {B : Nat} {w0 w w' : World} {qa qb qa' : Value} {na nb na' : Nat} {xa xb xa' : List Value} (h : Fx.Two B w0 w qa na xa qb nb xb)
    (ho : w'.ownsRow B 3 1 qa' na' xa') (hg : w.grownBy w' qa.ownBlock) (hb : ∀ k, qa'.ownBlock = some k → qa.ownBlock = some k ∨ w.heap.size ≤ k) : Fx.Two B w0 w' qa' na' xa' qb nb xb := by
  refine ⟨ho, own_heap h.b (fun k hk => hg.block k (h.b.lt k hk).2 (fun e => h.ne k e.symm hk)), fun j e1 e2 => ?_, h.bel.trans ((Below.refl _ _).grown hg h.size (fun k hk => (h.a.lt k hk).1)), Nat.le_trans h.size hg.size⟩
  rcases hb j e1 with h1 | h1
  · exact h.ne j h1 e2
  · have := (h.b.lt j e2).2
    omega

set_option maxRecDepth 100000 in
set_option maxHeartbeats 2000000 in
theorem xnames_any (l : List Int) (b ad : Int) (v : Value) (w : World) (hr : Row (Value.int .u8) w w.heap.size v l) (ok : ∀ x ∈ l, (Lit.int .u8 x).wf = true) (had : (Lit.int .i64 ad).wf = true) :
    Calls Try.prog 6 #[v, .int .i64 b, .int .i64 ad] w fun e w' => e = .returned (.bool true) ∧ Below w.heap.size w w' := by
  obtain ⟨A, c, rfl, l1, m1, hA⟩ := hr.shape
  obtain ⟨i0, hi0, hz0, hz1, hz2⟩ := info_parts fxIntInfo
  have HA := Lib.hid hA
  have HO := Lib.hid ok
  have ho1 := World.ownsRow_made w #[] 0 (e := 3) (base := w.heap.size) (size := 1) (Nat.le_refl _) (by decide) rfl
  have ho2 := World.ownsRow_made (w.alloc (.cells #[] 3)) #[] 0 (e := 3) (base := w.heap.size) (size := 1) (by simp) (by decide) rfl
  rw [World.size_alloc] at ho2
  have HX : Hid (Fx.Two w.heap.size w ((w.alloc (.cells #[] 3)).alloc (.cells #[] 3)) _ 0 [] _ 0 []) :=
    ⟨ho1.alloc (.cells #[] 3), ho2, by simp [Value.ownBlock], ((Below.refl _ _).alloc (Nat.le_refl _) _).alloc (by simp) _, by simp; omega⟩
  obtain ⟨n, hn⟩ : ∃ n, n = min l.length 60 := ⟨_, rfl⟩
  have HN := Lib.hid hn
  have hn60 : n ≤ 60 := by omega
  have hnl : n ≤ l.length := by omega
  clear hn
  have hm12 := Fx.and16 ad
  obtain ⟨m, hm⟩ : ∃ m, bits .and .i64 ad 65535 = m := ⟨_, rfl⟩
  rw [hm] at hm12
  clear hA ok hr ho1 ho2
  go_enter Try.func6, Try.ntmps6
  go_upto_block 0 with fail
  go_cut [7, 8] (fun qa qb wx => Fx.Two w.heap.size w wx qa n ((l.take n).map (.int .i64)) qb n (((l.take n).map fun c => m - 3 * c).map (.int .i64)))
  case first =>
    go_wp2
    go_loopw [7, 8, 9] (fun qa qb i wr => ∃ k : Nat, k ≤ n ∧ i = .int .i64 k ∧ Fx.Two w.heap.size w wr qa k ((l.take k).map (.int .i64)) qb k (((l.take k).map fun c => m - 3 * c).map (.int .i64))) (fun _ _ i _ => 60 - (intOf i).toNat)
    case atStart => exact ⟨0, Nat.zero_le _, rfl, HX.out⟩
    case round =>
      obtain ⟨k, hk, rfl, h2⟩ := hrel
      by_cases hlt : k < n
      · have hkl : k < l.length := by omega
        obtain ⟨bb, off, rfl, hbb, hc⟩ := HA.out (by rintro rfl; simp at hkl)
        have hcell := (h2.bel.cell (p := ⟨bb, off + k, none⟩) hbb).trans (hc k hkl)
        have hx := bounds_u8 (HO.out _ (List.getElem_mem hkl))
        have hk1 : (k : Int) < (l.length : Int) := by omega
        have hk2 : (k : Int) < 60 := by omega
        have HS : Hid ((l.take (k + 1)).map (Value.int .i64) = (l.take k).map (Value.int .i64) ++ [.int .i64 l[k]] ∧ ((l.take (k + 1)).map fun c => m - 3 * c).map (Value.int .i64) = ((l.take k).map fun c => m - 3 * c).map (Value.int .i64) ++ [.int .i64 (m - 3 * l[k])]) := by
          show _ ∧ _
          rw [List.take_succ_eq_append_getElem hkl, List.map_append, List.map_append, List.map_append]
          exact ⟨rfl, rfl⟩
        clear hc
        generalize l[k] = z at *
        have z1 : IntKind.i64.wrap (3 * z) = 3 * z := IntWalk.i64_in _ (by omega)
        have z2 : wrap64 (m - 3 * z) = m - 3 * z := by unfold wrap64; omega
        go_wp2_with (at_builtin; first
          | (have x := h3; refine wpList_app1b rfl (.tmp 32) (.tmp 38) 22 rfl w.heap.size 3 i0 (.int .i64 0) 8 Try.underlying22 hi0 hz0 hz1 hz2 rfl _ _ _ (.int .i64 (m - 3 * z)) rfl rfl _ rfl rfl h3.b h3.size (by simp only [maxLen]; omega) (by omega) ?_; intro v4 w4 o4 g4 b4; have h4 := (h3.swap.step o4 g4 b4).swap)
          | (refine wpList_app1b rfl (.tmp 28) (.tmp 30) 22 rfl w.heap.size 3 i0 (.int .i64 0) 8 Try.underlying22 hi0 hz0 hz1 hz2 rfl _ _ _ (.int .i64 z) rfl rfl _ rfl rfl h2.a h2.size (by simp only [maxLen]; omega) (by omega) ?_; intro v3 w3 o3 g3 b3; have h3 := h2.step o3 g3 b3; clear g3 b3))
        go_roundw
        case rel => exact ⟨k + 1, by omega, by go_num, by rw [HS.out.1, HS.out.2]; exact h4⟩
        case measure => simp [intOf]; omega
      · obtain rfl : k = n := by omega
        have hk := HN.out
        by_cases hz : k < l.length
        all_goals
          go_wp2
          go_meet
          exact h2
  case rest =>
    have hla : (l.take n).length = n := by simp; omega
    have e1 : ∃ a : Fx.V, Fx.ofF (l.take n) b = a := ⟨_, rfl⟩
    obtain ⟨⟨x1, y1, z1⟩, ha1⟩ := e1
    have ha2 : Fx.ofF ((l.take n).map fun c => m - 3 * c) b = (x1, y1, z1) := by
      rw [← ha1]
      exact Fx.of_map (fun c => m - 3 * c) (fun x y h => by simp at h; omega) _ _
    have hok1 : ∀ x ∈ l.take n, (Lit.int .i64 x).wf = true := fun x hx => by
      have := bounds_u8 (HO.out x (List.mem_of_mem_take hx))
      exact WalkArith.wf_i64 (by omega)
    have hok2 : ∀ x ∈ (l.take n).map fun c => m - 3 * c, (Lit.int .i64 x).wf = true := fun x hx => by
      obtain ⟨c, hc, rfl⟩ := List.mem_map.1 hx
      have := bounds_u8 (HO.out c (List.mem_of_mem_take hc))
      exact WalkArith.wf_i64 (by omega)
    have HF := Lib.hid (And.intro (fun v w hr => of_fx (l.take n) b x1 y1 z1 v w ha1 hr (by omega) hok1) (fun v w hr => of_fx ((l.take n).map fun c => m - 3 * c) b x1 y1 z1 v w ha2 hr (by simp; omega) hok2))
    have r1 := Row.own (n := n) hcut.a
    have r2 := Row.own (n := n) hcut.b
    have hbel := hcut.bel
    have hsz := hcut.size
    clear hcut ha1 ha2 hok1 hok2
    go_wp2_with fail
    refine (HF.out.1 _ _ r1).mono ?_
    rintro e w1 ⟨rfl, b1⟩
    replace r2 := r2.step b1
    have g1 := hbel.trans (b1.mono hsz)
    have s1 := Nat.le_trans hsz b1.size
    clear r1 b1 hbel
    go_wp2_with fail
    refine (HF.out.2 _ _ r2).mono ?_
    rintro e w2 ⟨rfl, b2⟩
    have g2 := g1.trans (b2.mono s1)
    have s2 := Nat.le_trans s1 b2.size
    clear r2 b2 g1
    go_wp2_with fail
    refine (xfixed_any _).mono ?_
    rintro e w3 ⟨rfl, b3⟩
    go_wp2_with fail
    go_ret
    exact ⟨rfl, g2.trans (b3.mono s2)⟩
end Go.Proofs.Ytgckcffgkgfakaa
