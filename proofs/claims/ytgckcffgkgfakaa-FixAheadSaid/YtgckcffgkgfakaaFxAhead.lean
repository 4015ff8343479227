/- The walk of stetlaw23.FixAhead. -/
import Derived.Test.YtgckcffgkgfakaaRows
import Derived.Test.YtgckcffgkgfakaaKit
import Derived.Test.YtgckcffgkgfakaaIn
import Derived.Test.YtgckcffgkgfakaaFxPl2
import Derived.Test.YtgckcffgkgfakaaFxLaw
import Derived.Test.YtgckcffgkgfakaaFxFixed
import Derived.Test.YtgckcffgkgfakaaFxBounds
namespace Go.Proofs.Ytgckcffgkgfakaa
open Go.RowKit

set_option maxRecDepth 100000 in
set_option maxHeartbeats 2000000 in
theorem xahead_any (xs : List Int) (b ct : Int) (v : Value) (w : World) (hr : Ints w w.heap.size v xs) (ok : ∀ x ∈ xs, (Lit.int .i64 x).wf = true) (hb : (Lit.int .i64 b).wf = true) (hc : (Lit.int .u8 ct).wf = true) :
    Calls Try.prog 7 #[v, .int .i64 b, .int .u8 ct] w fun e w' => e = .returned (.bool true) ∧ Below w.heap.size w w' := by
  obtain ⟨A, c, rfl, l1, m1, hA⟩ := hr.shape
  obtain ⟨k, hk⟩ : ∃ k, k = min xs.length 60 := ⟨_, rfl⟩
  have hk1 : k ≤ xs.length := by omega
  have hk2 : k ≤ 60 := by omega
  have hcut := row_cut2 hr (n := 0) (m := k) (Nat.zero_le _) hk1 _ _ _ rfl
  have hok : Hid (∀ x ∈ xs.take k, (Lit.int .i64 x).wf = true) := fun x hx => ok x (List.mem_of_mem_take hx)
  have hcb := bounds_u8 hc
  have HK := Lib.hid hk
  simp only [Nat.sub_zero, List.drop_zero] at hcut
  have hbb := bounds_i64 hb
  clear hk hA ok hb hc
  go_enter Try.func7, Try.ntmps7
  go_upto_region 1 with fail
  go_cut [0] (fun v wx => Ints w w.heap.size v (xs.take k) ∧ w = wx)
  case first =>
    go_wp2
    all_goals go_meet
    · obtain rfl : k = 60 := by have := HK.out; omega
      exact ⟨hcut, rfl⟩
    · obtain rfl : k = xs.length := by have := HK.out; omega
      exact ⟨hcut, rfl⟩
  case rest =>
    obtain ⟨hys, rfl⟩ := hcut
    have hl : (xs.take k).length ≤ 60 := by simp; omega
    clear hr hcut HK hk1 hk2
    generalize xs.take k = ys at *
    obtain ⟨Ay, cy, rfl, hyc, hym, hyA⟩ := hys.shape
    obtain ⟨q, hq⟩ : ∃ q : Nat, ct % ((ys.length : Int) + 1) = q := ⟨(ct % ((ys.length : Int) + 1)).toNat, by have := Int.emod_nonneg ct (show (ys.length : Int) + 1 ≠ 0 by omega); omega⟩
    have hq1 : q ≤ ys.length := by have := Int.emod_lt_of_pos ct (show (0 : Int) < (ys.length : Int) + 1 by omega); omega
    have hcut2 := row_cut2 hys (n := 0) (m := q) (Nat.zero_le _) hq1 _ _ _ rfl
    simp only [Nat.sub_zero, List.drop_zero] at hcut2
    have hokq : Hid (∀ x ∈ ys.take q, (Lit.int .i64 x).wf = true) := fun x hx => hok.out x (List.mem_of_mem_take hx)
    have sA : IntKind.i64.wrap ((ys.length : Int) + 1) = (ys.length : Int) + 1 := IntWalk.i64_in _ (by omega)
    have hnz : ((ys.length : Int) + 1 == 0) = false := by simp; omega
    have hlp : (0 : Int) < (ys.length : Int) + 1 := by omega
    have hq0 : (0 : Int) ≤ (q : Int) := by omega
    have hqc : (q : Int) ≤ (cy : Int) := by omega
    obtain ⟨⟨x1, y1, z1⟩, ha1⟩ : ∃ a : Fx.V, Fx.ofF (ys.take q) b = a := ⟨_, rfl⟩
    obtain ⟨⟨x2, y2, z2⟩, ha2⟩ : ∃ a : Fx.V, Fx.ofF ys b = a := ⟨_, rfl⟩
    have hmore : Hid (x1 ≠ 0 → x2 = x1 ∧ y2 = y1 ∧ z2 = z1) := fun h => by
      have := Fx.of_more ys q b (by rw [ha1]; exact h)
      rw [ha1, ha2] at this
      cases this
      exact ⟨rfl, rfl, rfl⟩
    have hrun : Hid (x1 = 0 → (∀ i j (hi : i < ys.length) (hiq : i < q) (hj : j < i), ys[i] ≠ ys[j]) ∧ (q : Int) ≤ max b 1) := fun h => by
      obtain ⟨h1, h2⟩ := Fx.of_run (ys.take q) b (by rw [ha1]; exact h)
      have hlq : (ys.take q).length = q := by simp; omega
      rw [hlq] at h2
      refine ⟨fun i j hi hiq hj => ?_, h2⟩
      have := h1 i j (by omega) hj
      rwa [List.getElem_take, List.getElem_take] at this
    have HF := Lib.hid (And.intro (fun v w hr => of_fx (ys.take q) b x1 y1 z1 v w ha1 hr (by simp; omega) hokq.out) (fun v w hr => of_fx ys b x2 y2 z2 v w ha2 hr (by omega) hok.out))
    have HY := Lib.hid hyA
    clear ha1 ha2 hok hokq hyA
    go_wp2_with fail
    simp only [hq]
    refine (HF.out.1 _ _ hcut2).mono ?_
    rintro e w1 ⟨rfl, b1⟩
    replace hys := hys.step b1
    have z1' := b1.size
    clear hcut2
    go_wp2_with fail
    refine (HF.out.2 _ _ hys).mono ?_
    rintro e w2 ⟨rfl, b2⟩
    replace hys := hys.step b2
    have g2 := b1.trans (b2.mono z1')
    have z2' := Nat.le_trans z1' b2.size
    clear b1 b2 z1' hq HY
    by_cases hx : x1 = 0
    · have hf := hrun.out hx
      subst hx
      clear hmore hrun HF
      have hr := hf.1
      have hl2 := hf.2
      clear hf
      have gW := (g2.alloc z2' (.cells #[.int .i64 0, .int .i64 y1, .int .i64 z1] 25)).alloc (by simp; omega) (.cells #[.int .i64 x2, .int .i64 y2, .int .i64 z2] 25)
      have hW := (hys.alloc (Nat.le_refl _) (.cells #[.int .i64 0, .int .i64 y1, .int .i64 z1] 25)).alloc (by simp) (.cells #[.int .i64 x2, .int .i64 y2, .int .i64 z2] 25)
      have zW : w.heap.size ≤ ((w2.alloc (.cells #[.int .i64 0, .int .i64 y1, .int .i64 z1] 25)).alloc (.cells #[.int .i64 x2, .int .i64 y2, .int .i64 z2] 25)).heap.size := by simp; omega
      obtain ⟨Bn, hBn⟩ : ∃ Bn : Nat, (Bn : Int) = max b 1 := ⟨(max b 1).toNat, by omega⟩
      have hmaxx : (if (1 : Int) < b then b else 1) = (Bn : Int) := by rw [hBn]; split <;> omega
      have hqB : (q : Int) ≤ (Bn : Int) := by omega
      clear hBn
      obtain ⟨_, _, e, _, _, hWc⟩ := hW.shape
      cases e
      have HC := Lib.hid (And.intro hWc hr)
      clear hr hl2 hW hys hWc g2 z2'
      go_wp2_with fail
      generalize (w2.alloc (.cells #[.int .i64 0, .int .i64 y1, .int .i64 z1] 25)).alloc (.cells #[.int .i64 x2, .int .i64 y2, .int .i64 z2] 25) = W at *
      go_loopw [10] (fun i wr => ∃ k n : Nat, k ≤ q ∧ i = .int .i64 (k : Int) ∧ wr = W.drewN n) (fun i _ => q - (intOf i).toNat)
      case atStart => exact ⟨0, 0, by omega, rfl, rfl⟩
      case round =>
        obtain ⟨k, n, hk, rfl, rfl⟩ := hrel
        obtain ⟨k1, hk1⟩ : ∃ k1, k1 = k + 1 := ⟨_, rfl⟩
        have sB : IntKind.i64.wrap ((k : Int) + 1) = (k1 : Int) := by rw [IntWalk.i64_in _ (by omega)]; omega
        by_cases hlt : k < q
        · obtain ⟨b0, o0, rfl, _, hcell⟩ := HC.out.1 (by rintro rfl; simp at hq1; omega)
          have HR := Lib.hid (And.intro hcell HC.out.2)
          have hkl : k < ys.length := by omega
          have c1 : (k : Int) < (q : Int) := by omega
          have c2 : (k : Int) < (ys.length : Int) := by omega
          have c3 : (0 : Int) ≤ (k : Int) := by omega
          have q1 := hcell k hkl
          have HK1 : Hid (k1 ≤ q ∧ q - k1 < q - k) := ⟨by omega, by omega⟩
          clear hk1 hcell
          obtain ⟨e1, he1⟩ : ∃ e, ys[k] = e := ⟨_, rfl⟩
          rw [he1] at q1
          go_wp2_with fail
          go_loopw [11] (fun j wr => ∃ m n : Nat, m ≤ k ∧ j = .int .i64 (m : Int) ∧ wr = W.drewN n) (fun j _ => k - (intOf j).toNat)
          case atStart => exact ⟨0, n, by omega, rfl, rfl⟩
          case round =>
            obtain ⟨m, n2, hm, rfl, rfl⟩ := hrel
            by_cases hlt2 : m < k
            · have hml : m < ys.length := by omega
              have q2 := HR.out.1 m hml
              have hne : e1 ≠ ys[m] := by rw [← he1]; exact HR.out.2 k m hkl hlt hlt2
              obtain ⟨m1, hm1⟩ : ∃ m1, m1 = m + 1 := ⟨_, rfl⟩
              have sC : IntKind.i64.wrap ((m : Int) + 1) = (m1 : Int) := by rw [IntWalk.i64_in _ (by omega)]; omega
              have c4 : (m : Int) < (k : Int) := by omega
              have c5 : (m : Int) < (ys.length : Int) := by omega
              have c6 : (0 : Int) ≤ (m : Int) := by omega
              have HM1 : Hid (m1 ≤ k ∧ k - m1 < k - m) := ⟨by omega, by omega⟩
              clear hm1 hlt2 hm
              obtain ⟨e2, he2⟩ : ∃ e, ys[m] = e := ⟨_, rfl⟩
              rw [he2] at q2 hne
              have hne2 : (e1 == e2) = false := by simp [hne]
              go_wp2_with fail
              go_quiet (fail)
              go_wp2_with fail
              go_roundw
              case rel => exact ⟨m1, n2 + nq, HM1.out.1, rfl, by first | rfl | exact World.drewN_drewN _ _ _⟩
              case measure => simp only [intOf, Int.toNat_natCast]; exact HM1.out.2
            · have c4 : ¬ ((m : Int) < (k : Int)) := by omega
              clear hlt2 hm
              go_wp2_with fail
              go_roundw
              case rel => exact ⟨k1, n2, HK1.out.1, rfl, rfl⟩
              case measure => simp only [intOf, Int.toNat_natCast]; exact HK1.out.2
        · have c1 : ¬ ((k : Int) < (q : Int)) := by omega
          clear hlt hk hk1
          go_wp2_with fail
          refine (xfixed_any _).mono ?_
          rintro e w3 ⟨rfl, b3⟩
          go_wp2_with fail
          go_ret
          exact ⟨rfl, (below_drewN gW n).trans (b3.mono zW)⟩
    · obtain ⟨rfl, rfl, rfl⟩ := hmore.out hx
      clear hmore hrun HF
      go_wp2_with fail
      refine (xfixed_any _).mono ?_
      rintro e w3 ⟨rfl, b3⟩
      go_wp2_with fail
      go_ret
      exact ⟨rfl, below_lit2 g2 z2' _ _ b3 (by simp; omega)⟩
end Go.Proofs.Ytgckcffgkgfakaa
