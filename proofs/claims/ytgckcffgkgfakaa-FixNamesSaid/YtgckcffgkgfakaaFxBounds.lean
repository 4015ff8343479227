/- The walk of stetlaw23.FixBounds. -/
import Derived.Test.YtgckcffgkgfakaaRows
import Derived.Test.YtgckcffgkgfakaaKit
import Derived.Test.YtgckcffgkgfakaaIn
import Derived.Test.YtgckcffgkgfakaaFxLaw
import Derived.Test.YtgckcffgkgfakaaFxTab
import Derived.Test.YtgckcffgkgfakaaFxFixed
namespace Go.Proofs.Ytgckcffgkgfakaa
open Go.RowKit

theorem row_len {f : Int → Value} {w : World} {B : Nat} {v : Value} {xs : List Int} {n : Nat} (h : Row f w B v xs) (hn : xs.length = n) : ∃ A c, v = .slice A n c := by
  obtain ⟨A, c, e, _⟩ := h.shape
  exact ⟨A, c, by rw [e, hn]⟩

set_option maxRecDepth 100000 in
set_option maxHeartbeats 2000000 in
theorem xbounds_any (l : List Int) (fr bd : Int) (v : Value) (w : World) (hr : Row (Value.int .u8) w w.heap.size v l) (ok : ∀ x ∈ l, (Lit.int .u8 x).wf = true) (hf : (Lit.int .u8 fr).wf = true) (hbd : (Lit.int .u8 bd).wf = true) :
    Calls Try.prog 4 #[v, .int .u8 fr, .int .u8 bd] w fun e w' => e = .returned (.bool true) ∧ Below w.heap.size w w' := by
  have htab := table_any l fr v w hr ok hf
  have hfb := bounds_u8 hf
  have hbb := bounds_u8 hbd
  obtain ⟨hT1, hT2⟩ := Fx.tbl_pos l
  have hs0 : 0 ≤ fr % ((Fx.tbl l).length : Int) := Int.emod_nonneg _ (by omega)
  have hs1 : fr % ((Fx.tbl l).length : Int) < ((Fx.tbl l).length : Int) := Int.emod_lt_of_pos _ (by omega)
  have hm := Fx.tbl_may l _ hs0 hs1
  generalize Fx.tbl l = T at *
  generalize fr % (T.length : Int) = s at *
  obtain ⟨s0, m, r, rfl, hcy, hmr⟩ := Fx.mayF_cyc hm
  obtain ⟨bn, hbn⟩ : ∃ bn : Nat, 1 + bd % 60 = bn := ⟨(1 + bd % 60).toNat, by omega⟩
  have hbn1 : 1 ≤ bn := by omega
  have hbn2 : bn ≤ 60 := by omega
  have hp := hcy.pos
  obtain ⟨⟨x3, y3, z3⟩, ha3⟩ : ∃ a : Fx.V, Fx.walkV m r (T.length : Int) = a := ⟨_, rfl⟩
  obtain ⟨⟨x1, y1, z1⟩, ha1⟩ : ∃ a : Fx.V, Fx.walkV m r (bn : Int) = a := ⟨_, rfl⟩
  obtain ⟨⟨x2, y2, z2⟩, ha2⟩ : ∃ a : Fx.V, Fx.walkV m r ((bn : Int) + 7) = a := ⟨_, rfl⟩
  obtain ⟨n1, hn1⟩ : ∃ n1, n1 = Fx.walkN m r (bn : Int) + 1 := ⟨_, rfl⟩
  obtain ⟨n2, hn2⟩ : ∃ n2, n2 = Fx.walkN m r ((bn : Int) + 7) + 1 := ⟨_, rfl⟩
  have hN1 : n1 = min (m + r) bn + 1 := by rw [hn1]; unfold Fx.walkN; omega
  have hN2 : n2 = min (m + r) (bn + 7) + 1 := by rw [hn2]; unfold Fx.walkN; omega
  have hx3 : x3 ≠ 3 := by
    unfold Fx.walkV at ha3
    rw [if_pos (by omega)] at ha3
    split at ha3 <;> (cases ha3; decide)
  have hB : (x1 = 3 ∧ n1 = bn + 1 ∧ n1 ≤ n2) ∨ (x1 ≠ 3 ∧ x1 = x2 ∧ y1 = y2 ∧ z1 = z2 ∧ n1 = n2) := by
    unfold Fx.walkV at ha1 ha2
    by_cases hc : ((m + r : Nat) : Int) ≤ (bn : Int)
    · refine .inr ?_
      rw [if_pos hc] at ha1
      rw [if_pos (by omega), ha1] at ha2
      cases ha2
      refine ⟨?_, rfl, rfl, rfl, by omega⟩
      split at ha1 <;> (cases ha1; decide)
    · refine .inl ?_
      rw [if_neg hc] at ha1
      cases ha1
      exact ⟨rfl, by omega, by omega⟩
  have HW := Lib.hid (And.intro (fun v w hr => walk_fx T s0 s0 m r (bn : Int) x1 y1 z1 (Fx.ol (Fx.nx T) s0 n1) v w rfl ha1 (by rw [hn1]) hr (by omega) hm (by omega) (by omega) hcy)
    (And.intro (fun v w hr => walk_fx T s0 s0 m r ((bn : Int) + 7) x2 y2 z2 (Fx.ol (Fx.nx T) s0 n2) v w rfl ha2 (by rw [hn2]) hr (by omega) hm (by omega) (by omega) hcy)
      (fun v w hr => walk_fx T s0 s0 m r (T.length : Int) x3 y3 z3 (Fx.ol (Fx.nx T) s0 (Fx.walkN m r (T.length : Int) + 1)) v w rfl ha3 rfl hr (by omega) hm (by omega) (by omega) hcy)))
  have h1 : (2 : Int) ≤ (n1 : Int) := by omega
  have h2 : (n1 : Int) ≤ (bn : Int) + 1 := by omega
  have h3 : (n2 : Int) ≤ (bn : Int) + 8 := by omega
  have HT := Lib.hid htab
  have HB := Lib.hid hB
  clear htab hfb hs0 hs1 hm hcy hmr ha1 ha2 ha3 hn1 hn2 hN1 hN2 hB hr ok hf hbd
  go_enter Try.func4, Try.ntmps4
  go_wp2_with fail
  refine HT.out.mono ?_
  rintro e w1 ⟨rv, rfl, hT, b1⟩
  obtain ⟨At, ct, rfl⟩ := row_len hT rfl
  go_wp2_with fail
  refine (HW.out.1 _ _ hT).mono ?_
  rintro e w2 ⟨ra, rfl, hra, b2⟩
  have a2 : Below w2.heap.size w2 (w2.alloc (.cells #[.int .i64 x1, .int .i64 y1, .int .i64 z1] 25)) := (Below.refl _ _).alloc (Nat.le_refl _) _
  have hv1 : Ints (w2.alloc (.cells #[.int .i64 x1, .int .i64 y1, .int .i64 z1] 25)) (w2.alloc (.cells #[.int .i64 x1, .int .i64 y1, .int .i64 z1] 25)).heap.size (.slice (some ⟨w2.heap.size, 0, none⟩) 3 3) [x1, y1, z1] := (row_lit (Value.int .i64) [x1, y1, z1] w2 25 (by simp [maxLen])).more (by simp)
  replace hT := (hT.step b2).step a2
  replace hra := hra.step a2
  have g2 := (b1.trans (b2.mono b1.size)).trans (a2.mono (Nat.le_trans b1.size b2.size))
  have z2' := Nat.le_trans (Nat.le_trans b1.size b2.size) a2.size
  clear b1 b2 a2
  go_wp2_with fail
  refine (HW.out.2.1 _ _ hT).mono ?_
  rintro e w3 ⟨rb, rfl, hrb, b3⟩
  have a3 : Below w3.heap.size w3 (w3.alloc (.cells #[.int .i64 x2, .int .i64 y2, .int .i64 z2] 25)) := (Below.refl _ _).alloc (Nat.le_refl _) _
  have hv2 : Ints (w3.alloc (.cells #[.int .i64 x2, .int .i64 y2, .int .i64 z2] 25)) (w3.alloc (.cells #[.int .i64 x2, .int .i64 y2, .int .i64 z2] 25)).heap.size (.slice (some ⟨w3.heap.size, 0, none⟩) 3 3) [x2, y2, z2] := (row_lit (Value.int .i64) [x2, y2, z2] w3 25 (by simp [maxLen])).more (by simp)
  replace hT := (hT.step b3).step a3
  replace hra := (hra.step b3).step a3
  replace hv1 := (hv1.step b3).step a3
  replace hrb := hrb.step a3
  have g3 := (g2.trans (b3.mono z2')).trans (a3.mono (Nat.le_trans z2' b3.size))
  have z3' := Nat.le_trans (Nat.le_trans z2' b3.size) a3.size
  clear b3 a3 g2 z2'
  go_wp2_with fail
  refine (HW.out.2.2 _ _ hT).mono ?_
  rintro e w4 ⟨rc, rfl, hrc, b4⟩
  have a4 : Below w4.heap.size w4 (w4.alloc (.cells #[.int .i64 x3, .int .i64 y3, .int .i64 z3] 25)) := (Below.refl _ _).alloc (Nat.le_refl _) _
  have hv3 : Ints (w4.alloc (.cells #[.int .i64 x3, .int .i64 y3, .int .i64 z3] 25)) (w4.alloc (.cells #[.int .i64 x3, .int .i64 y3, .int .i64 z3] 25)).heap.size (.slice (some ⟨w4.heap.size, 0, none⟩) 3 3) [x3, y3, z3] := (row_lit (Value.int .i64) [x3, y3, z3] w4 25 (by simp [maxLen])).more (by simp)
  replace hra := (hra.step b4).step a4
  replace hrb := (hrb.step b4).step a4
  replace hv1 := (hv1.step b4).step a4
  replace hv2 := (hv2.step b4).step a4
  have g4 := (g3.trans (b4.mono z3')).trans (a4.mono (Nat.le_trans z3' b4.size))
  have z4' := Nat.le_trans (Nat.le_trans z3' b4.size) a4.size
  clear b4 a4 g3 z3' hT hrc
  obtain ⟨Aa, ca, rfl⟩ := row_len hra (Fx.ol_length _ _ _)
  obtain ⟨Ab, cb, rfl⟩ := row_len hrb (Fx.ol_length _ _ _)
  obtain ⟨c10, c11, c12⟩ := row_cell3 hv1
  obtain ⟨c20, c21, c22⟩ := row_cell3 hv2
  obtain ⟨c30, c31, c32⟩ := row_cell3 hv3
  have hx3' : (x3 != 3) = true := by simp [hx3]
  rcases HB.out with ⟨hx1, hnb, hnn⟩ | ⟨hx1, rfl, rfl, rfl, rfl⟩
  · subst hx1
    have hnb' : (n1 : Int) = (bn : Int) + 1 := by omega
    have hnb2 : ((n1 : Int) == (bn : Int) + 1) = true := by simp [hnb']
    have hnn' : (n1 : Int) ≤ (n2 : Int) := by omega
    clear hx3
    go_wp2_with fail
    refine (xfixed_any _).mono ?_
    rintro e w5 ⟨rfl, b5⟩
    go_wp2_with fail
    go_ret
    exact ⟨rfl, g4.trans (b5.mono z4')⟩
  · have hx1' : (x1 == 3) = false := by simp [hx1]
    clear hx3 hx1
    go_wp2_with fail
    refine (rInts_below (Fx.ol (Fx.nx T) s0 n1) _ _ _ _ _ hra hrb).mono ?_
    rintro e w5 ⟨rfl, b5⟩
    have hv5 := hv3.step b5
    obtain ⟨e30, e31, e32⟩ := row_cell3 hv5
    go_wp2_with fail
    refine (xfixed_any _).mono ?_
    rintro e w6 ⟨rfl, b6⟩
    go_wp2_with fail
    go_ret
    exact ⟨rfl, (g4.trans (b5.mono z4')).trans (b6.mono (Nat.le_trans z4' b5.size))⟩
end Go.Proofs.Ytgckcffgkgfakaa
