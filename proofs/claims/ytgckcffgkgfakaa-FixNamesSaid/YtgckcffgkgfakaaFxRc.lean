/- The walk of stetref23.Cycle. -/
import Derived.Test.YtgckcffgkgfakaaRows
import Derived.Test.YtgckcffgkgfakaaKit
import Derived.Test.YtgckcffgkgfakaaFxPl
import Derived.Test.YtgckcffgkgfakaaFxW1
import Derived.Test.YtgckcffgkgfakaaFxMay
import Derived.Test.YtgckcffgkgfakaaFxWalk
namespace Go.Proofs.Ytgckcffgkgfakaa
open Go.RowKit

set_option maxHeartbeats 400000 in
theorem rCycle_bad (next : List Int) (s : Int) (v : Value) (w : World) (hr : Ints w w.heap.size v next) (hm : Fx.mayF next s = false) :
    Calls Try.prog 11 #[v, .int .i64 s] w fun e w' => e = .returned (.tuple #[.int .i64 0, .int .i64 0, .int .i64 1]) ∧ w = w' := by
  go_enter Try.func11, Try.ntmps11
  go_wp2_with (go_at_call 20; refine (rMay_any next s v _ _ hr).mono ?_; rintro e w' ⟨rfl, rfl⟩)
  refine bodyPost_ret (v := .tuple #[.int .i64 0, .int .i64 0, .int .i64 1]) (by simp [results, Try.f11, go_sem]) rfl ?_
  exact ⟨rfl, rfl⟩

set_option maxHeartbeats 2000000 in
theorem rCycle_any (next : List Int) (s m r : Nat) (v : Value) (w : World) (hr : Ints w w.heap.size v next) (hl : next.length < 1000000) (hm : Fx.mayF next s = true) (hcy : Fx.Cyc (Fx.nx next) s m r) (hmr : m + r ≤ next.length) :
    Calls Try.prog 11 #[v, .int .i64 s] w fun e w' => e = .returned (.tuple #[.int .i64 (m : Int), .int .i64 (r : Int), .int .i64 0]) ∧ Below w.heap.size w w' := by
  obtain ⟨A, c, rfl, l1, m1, hA⟩ := hr.shape
  have HA := Lib.hid hA
  obtain ⟨hin, _, hs⟩ := Fx.mayF_inv hm
  have hs : s < next.length := by omega
  have HC := Lib.hid (And.intro hcy (And.intro hin hs))
  obtain ⟨i0, hi0, hz0, hz1, hz2⟩ := info_parts fxIntInfo
  have hown0 := World.ownsRow_made w #[] 0 (e := 3) (base := w.heap.size) (size := 1) (Nat.le_refl _) (by decide) rfl
  have HX := Lib.hid hown0
  clear hA hcy hin hown0
  go_enter Try.func11, Try.ntmps11
  go_wp2_with (go_at_call 20; refine (rMay_any next s _ _ _ hr).mono ?_; rintro e w' ⟨rfl, rfl⟩)
  go_loopw [7, 8] (fun q x wr => ∃ (k : Nat) (Aq : Option Addr) (cq : Nat), q = .slice Aq k cq ∧ k ≤ m + r ∧ x = .int .i64 (Fx.orb (Fx.nx next) s k : Nat) ∧ wr.ownsRow w.heap.size 3 1 q k ((Fx.ol (Fx.nx next) s k).map (.int .i64)) ∧ Below w.heap.size w wr ∧ w.heap.size ≤ wr.heap.size ∧ Fx.slen q = k) (fun q _ _ => m + r + 1 - Fx.slen q)
  case atStart => exact ⟨0, _, _, rfl, Nat.zero_le _, rfl, HX.out, (Below.refl _ _).alloc (Nat.le_refl _) _, by simp, rfl⟩
  case round =>
    obtain ⟨k, Aq, cq, rfl, hk, rfl, hown, hbk, hsk, hsl⟩ := hrel
    obtain ⟨hcy, hin, hs0⟩ := HC.out
    have hob := Fx.orb_lt hin hs0 k
    have hol := Lib.hid (Fx.ol_succ (Fx.nx next) s k)
    have hnx := Fx.nx_at hin hob
    have HNX : Hid (Fx.nx next (Fx.orb (Fx.nx next) s k) = Fx.orb (Fx.nx next) s (k + 1)) := rfl
    obtain ⟨bb, off, rfl, hbb, hc⟩ := HA.out (by rintro rfl; simp at hob)
    have hnc := hc _ hob
    rw [hnx.2, HNX.out] at hnc
    have hrow : Hid (∀ i (hi : i < k), ∃ b o, Aq = some ⟨b, o, none⟩ ∧ wr.cell? ⟨b, o + i, none⟩ = some (.int .i64 ((Fx.orb (Fx.nx next) s i : Nat) : Int))) := by
      intro i hi
      obtain ⟨A', c', e1, _, _, h2⟩ := (Row.own hown).shape
      injection e1 with e1 _ _
      obtain ⟨b, o, e2, _, h3⟩ := h2 (by intro h; have := congrArg List.length h; rw [Fx.ol_length] at this; simp at this; omega)
      have h4 := h3 i (by rw [Fx.ol_length]; exact hi)
      rw [Fx.ol_get] at h4
      exact ⟨b, o, by rw [e1, e2], h4⟩
    have HO := Lib.hid hown
    have hnot := Lib.hid (fun i (hi : i < k) (he : Fx.orb (Fx.nx next) s i = Fx.orb (Fx.nx next) s k) => show k = m + r ∧ i = m from by
      have hd := (hcy.eq_iff i (k - i) (by omega)).1 (by rw [show i + (k - i) = k by omega]; exact he)
      have := Nat.le_of_dvd (by omega) hd.2
      omega)
    have hyes := Lib.hid hcy.same
    have hpos := hcy.pos
    clear hc hin hcy hnx hown
    generalize hxo : Fx.orb (Fx.nx next) s k = xo at *
    have hxi0 : (0 : Int) ≤ (xo : Int) := by omega
    have hxi1 : (xo : Int) < (next.length : Int) := by omega
    go_wp2
    go_loopw [9] (fun t wx => ∃ i : Nat, i ≤ k ∧ t = .int .i64 (i : Int) ∧ wr = wx ∧ Hid (∀ j, j < i → Fx.orb (Fx.nx next) s j ≠ xo)) (fun t _ => k - (intOf t).toNat)
    case atStart => exact ⟨0, Nat.zero_le _, rfl, rfl, fun j hj => by omega⟩
    case round =>
      obtain ⟨i, hi, rfl, rfl, hno⟩ := hrel
      by_cases hlt : i < k
      · obtain ⟨b, o, rfl, hcell⟩ := hrow.out i hlt
        have hii : (i : Int) < (k : Int) := by omega
        by_cases he : Fx.orb (Fx.nx next) s i = xo
        · obtain ⟨hk2, rfl⟩ := hnot.out i hlt he
          have hsub : ((k : Int) - (i : Int)) = (r : Int) := by omega
          have hbe : (((Fx.orb (Fx.nx next) s i : Nat) : Int) == (xo : Int)) = true := by simp [he]
          clear he hk2
          generalize Fx.orb (Fx.nx next) s i = xi at *
          go_wp2
          refine bodyPost_ret (v := .tuple #[.int .i64 (i : Int), .int .i64 (r : Int), .int .i64 0]) (by simp [results, Try.f11, go_sem]) rfl ?_
          exact ⟨rfl, hbk⟩
        · have hbe : (((Fx.orb (Fx.nx next) s i : Nat) : Int) == (xo : Int)) = false := by simp; omega
          have hno2 : Hid (∀ j, j < i + 1 → Fx.orb (Fx.nx next) s j ≠ xo) := fun j hj => by
            by_cases hji : j = i
            · subst hji; exact he
            · exact hno.out j (by omega)
          clear he
          generalize Fx.orb (Fx.nx next) s i = xi at *
          go_wp2
          go_roundw
          case rel => exact ⟨i + 1, by omega, by go_num, by trivial, hno2⟩
          case measure => simp [intOf]; omega
      · obtain rfl : i = k := by omega
        have hkl : i < m + r := by
          rcases Nat.lt_or_ge i (m + r) with h | h
          · exact h
          · obtain rfl : i = m + r := by omega
            exact absurd (hyes.out.symm.trans hxo) (hno.out m (by omega))
        have hown := HO.out
        go_wp2_with (at_builtin; refine wpList_app1 rfl (.tmp 33) (.tmp 35) 22 rfl w.heap.size 3 i0 (.int .i64 0) 8 Try.underlying22 hi0 hz0 hz1 hz2 rfl _ _ _ (.int .i64 (xo : Int)) rfl rfl rfl hown hsk (by simp only [maxLen]; omega) (by omega) ?_; intro q' w3 ho3 hb3 hg3; have hcell := (hbk.trans hb3).cell (p := ⟨bb, off + xo, none⟩) hbb |>.trans hnc)
        have hs3 := hb3.size
        obtain ⟨Aq', cq', rfl⟩ : ∃ A c, q' = .slice A (i + 1) c := by
          rcases ho3.2 with ⟨_, h0⟩ | ⟨g, cap, cur, hq, _⟩
          · omega
          · exact ⟨_, cap, hq⟩
        go_roundw
        case rel => exact ⟨i + 1, _, _, rfl, by omega, rfl, by rw [hol.out, List.map_append]; exact ho3, hbk.trans hb3, by omega, rfl⟩
        case measure => simp only [Fx.slen]; omega
end Go.Proofs.Ytgckcffgkgfakaa
