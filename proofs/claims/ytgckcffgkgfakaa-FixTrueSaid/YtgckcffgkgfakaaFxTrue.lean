/- The walk of stetlaw23.FixTrue. -/
import Derived.Test.YtgckcffgkgfakaaRows
import Derived.Test.YtgckcffgkgfakaaKit
import Derived.Test.YtgckcffgkgfakaaIn
import Derived.Test.YtgckcffgkgfakaaFxLaw
import Derived.Test.YtgckcffgkgfakaaFxTab
import Derived.Test.YtgckcffgkgfakaaFxFixed
import Derived.Test.YtgckcffgkgfakaaFxBounds
namespace Go.Proofs.Ytgckcffgkgfakaa
open Go.RowKit

set_option maxRecDepth 100000 in
set_option maxHeartbeats 4000000 in
theorem xtrue_any (l : List Int) (fr : Int) (v : Value) (w : World) (hr : Row (Value.int .u8) w w.heap.size v l) (ok : ∀ x ∈ l, (Lit.int .u8 x).wf = true) (hf : (Lit.int .u8 fr).wf = true) :
    Calls Try.prog 5 #[v, .int .u8 fr] w fun e w' => e = .returned (.bool true) ∧ Below w.heap.size w w' := by
  have htab := table_any l fr v w hr ok hf
  have hfb := bounds_u8 hf
  obtain ⟨hT1, hT2⟩ := Fx.tbl_pos l
  have hs0 : 0 ≤ fr % ((Fx.tbl l).length : Int) := Int.emod_nonneg _ (by omega)
  have hs1 : fr % ((Fx.tbl l).length : Int) < ((Fx.tbl l).length : Int) := Int.emod_lt_of_pos _ (by omega)
  have hm := Fx.tbl_may l _ hs0 hs1
  generalize Fx.tbl l = T at *
  generalize fr % (T.length : Int) = s at *
  obtain ⟨s0, m, r, rfl, hcy, hmr⟩ := Fx.mayF_cyc hm
  have hp := hcy.pos
  obtain ⟨ri, hri⟩ : ∃ ri : Int, ri = (r : Int) := ⟨_, rfl⟩
  obtain ⟨⟨x1, y1, z1⟩, ha1⟩ : ∃ a : Fx.V, Fx.walkV m r 100 = a := ⟨_, rfl⟩
  obtain ⟨n1, hn1⟩ : ∃ n1, n1 = Fx.walkN m r 100 + 1 := ⟨_, rfl⟩
  have hN1 : n1 = m + r + 1 := by rw [hn1]; unfold Fx.walkN; omega
  have hB : (r = 1 ∧ ri = 1 ∧ x1 = 1 ∧ y1 = m ∧ z1 = 0) ∨ (1 < r ∧ x1 = 2 ∧ y1 = m ∧ z1 = ((m + r : Nat) : Int)) := by
    unfold Fx.walkV at ha1
    rw [if_pos (by omega)] at ha1
    by_cases hr1 : r = 1
    · rw [if_pos hr1] at ha1
      cases ha1
      exact .inl ⟨hr1, by omega, rfl, rfl, rfl⟩
    · rw [if_neg hr1] at ha1
      cases ha1
      exact .inr ⟨by omega, rfl, rfl, rfl⟩
  have hin := (Fx.mayF_inv hm).1
  have hss : s0 < T.length := by omega
  have HW := Lib.hid (And.intro (fun v w hr => walk_fx T s0 s0 m r 100 x1 y1 z1 (Fx.ol (Fx.nx T) s0 n1) v w rfl ha1 (by rw [hn1]) hr (by omega) hm (by omega) (by omega) hcy)
    (fun (v : Value) (w : World) (hr : Ints w w.heap.size v T) => show Calls Try.prog 10 #[v, .int .i64 ((s0 : Nat) : Int)] w fun e w' => e = .returned (.tuple #[.int .i64 (m : Int), .int .i64 ri, .int .i64 0]) ∧ Below w.heap.size w w' from hri ▸ cycle_fx T s0 s0 m r v w rfl hr (by omega) hm hcy hmr))
  have HO : Hid ((∀ k, Fx.orb (Fx.nx T) s0 k < T.length) ∧ (∀ k (h : Fx.orb (Fx.nx T) s0 k < T.length), T[Fx.orb (Fx.nx T) s0 k] = ((Fx.orb (Fx.nx T) s0 (k + 1) : Nat) : Int)) ∧ Fx.orb (Fx.nx T) s0 (m + r) = Fx.orb (Fx.nx T) s0 m ∧ Fx.orb (Fx.nx T) s0 0 = s0) :=
    ⟨Fx.orb_lt hin hss, fun k h => (Fx.nx_at hin h).2, hcy.same, rfl⟩
  have h1 : (2 : Int) ≤ (n1 : Int) := by omega
  have h2 : (0 : Int) ≤ (m : Int) := by omega
  have h3 : (1 : Int) ≤ ri := by omega
  have HRI := Lib.hid hri
  clear hri
  have HT := Lib.hid htab
  have HB := Lib.hid hB
  have HN := Lib.hid hN1
  have hn1p : 0 < n1 := by omega
  have hn1l : n1 ≤ 41 := by omega
  clear hN1
  clear htab hfb hs0 hs1 hm hcy ha1 hn1 hB hr ok hf hin hss
  generalize hO : Fx.orb (Fx.nx T) s0 = O at *
  go_enter Try.func5, Try.ntmps5
  go_wp2_with fail
  refine HT.out.mono ?_
  rintro e w1 ⟨rv, rfl, hT, b1⟩
  obtain ⟨At, ct, rfl⟩ := row_len hT rfl
  go_wp2_with fail
  refine (HW.out.1 _ _ hT).mono ?_
  rintro e w2 ⟨ra, rfl, hra, b2⟩
  have a2 : Below w2.heap.size w2 (w2.alloc (.cells #[.int .i64 x1, .int .i64 y1, .int .i64 z1] 25)) := (Below.refl _ _).alloc (Nat.le_refl _) _
  have hv1 : Ints (w2.alloc (.cells #[.int .i64 x1, .int .i64 y1, .int .i64 z1] 25)) (w2.alloc (.cells #[.int .i64 x1, .int .i64 y1, .int .i64 z1] 25)).heap.size (.slice (some ⟨w2.heap.size, 0, none⟩) 3 3) [x1, y1, z1] := (row_lit (Value.int .i64) [x1, y1, z1] w2 25 (by simp [maxLen])).more (by simp)
  replace hT := (hT.step b2).step a2
  replace hra := hra.step a2
  have g2 := (b1.trans (b2.mono b1.size)).trans (a2.mono (Nat.le_trans b1.size b2.size))
  have z2' := Nat.le_trans (Nat.le_trans b1.size b2.size) a2.size
  clear b1 b2 a2
  go_wp2_with fail
  refine (HW.out.2 _ _ hT).mono ?_
  rintro e w3 ⟨rfl, b3⟩
  replace hT := hT.step b3
  replace hra := hra.step b3
  replace hv1 := hv1.step b3
  have g3 := g2.trans (b3.mono z2')
  have z3' : (w2.alloc (.cells #[.int .i64 x1, .int .i64 y1, .int .i64 z1] 25)).heap.size ≤ w3.heap.size := b3.size
  clear b3 g2
  -- what the two rows hold
  obtain ⟨bq, oq, ca, rfl, hcq⟩ : ∃ bq oq ca, ra = .slice (some ⟨bq, oq, none⟩) n1 ca ∧ ∀ j, j < n1 → w3.cell? ⟨bq, oq + j, none⟩ = some (.int .i64 ((O j : Nat) : Int)) := by
    obtain ⟨A, c, e, _, _, hc⟩ := hra.shape
    obtain ⟨b, o, rfl, _, hc⟩ := hc (by intro h; have := congrArg List.length h; rw [Fx.ol_length] at this; simp at this; omega)
    refine ⟨b, o, c, by rw [e, Fx.ol_length], fun j hj => ?_⟩
    have := hc j (by rw [Fx.ol_length]; exact hj)
    rw [Fx.ol_get, hO] at this
    exact this
  obtain ⟨bt, ot, rfl, hct⟩ : ∃ bt ot, At = some ⟨bt, ot, none⟩ ∧ ∀ k, w3.cell? ⟨bt, ot + O k, none⟩ = some (.int .i64 ((O (k + 1) : Nat) : Int)) := by
    obtain ⟨A, c, e, _, _, hc⟩ := hT.shape
    cases e
    obtain ⟨b, o, rfl, _, hc⟩ := hc (by rintro rfl; simp at hT1)
    refine ⟨b, o, rfl, fun k => ?_⟩
    have := hc (O k) (HO.out.1 k)
    rw [HO.out.2.1 k (HO.out.1 k)] at this
    exact this
  obtain ⟨c10, c11, c12⟩ := row_cell3 hv1
  have HC := Lib.hid (And.intro hcq hct)
  clear hcq hct hT hra hv1
  go_wp2_with fail
  go_loopw [13] (fun i wr => ∃ k n : Nat, k + 1 ≤ n1 ∧ i = .int .i64 (k : Int) ∧ wr = w3.drewN n) (fun i _ => n1 - (intOf i).toNat)
  case atStart => exact ⟨0, 0, by omega, rfl, rfl⟩
  case round =>
    obtain ⟨k, n, hk, rfl, rfl⟩ := hrel
    obtain ⟨k1, hk1⟩ : ∃ k1, k1 = k + 1 := ⟨_, rfl⟩
    have sA : IntKind.i64.wrap ((k : Int) + 1) = (k1 : Int) := by rw [IntWalk.i64_in _ (by omega)]; omega
    by_cases hlt : k + 1 < n1
    · have q1 := HC.out.1 k (by omega)
      have q2 := HC.out.1 k1 (by omega)
      have q3 := HC.out.2 k
      rw [← hk1] at q3
      have i1 := HO.out.1 k
      have i2 : ((O k : Nat) : Int) < (T.length : Int) := by omega
      have i3 : (0 : Int) ≤ ((O k : Nat) : Int) := by omega
      have i4 : (k1 : Int) < (n1 : Int) := by omega
      have i5 : (0 : Int) ≤ (k : Int) := by omega
      have i6 : (k : Int) < (n1 : Int) := by omega
      have i8 : (0 : Int) ≤ (k1 : Int) := by omega
      have i7' : Hid ((k : Int) + 1 = (k1 : Int)) := by show _ = _; omega
      have i9' : Hid (k1 + 1 ≤ n1 ∧ n1 - k1 < n1 - k) := ⟨by omega, by omega⟩
      clear hlt hk1
      generalize O k = ok at *
      generalize O k1 = ok1 at *
      go_wp2_with fail
      have jd1 : decide ((ok : Int) < 0) = false := by simp
      have jd2 : decide (T.length ≤ ok) = false := by simp; omega
      have sK : IntKind.i64.wrap (k1 : Int) = (k1 : Int) := IntWalk.i64_in _ (by omega)
      have i7 := i7'.out
      go_quiet (fail)
      clear i7 jd1 jd2 sK
      go_wp2_with fail
      go_roundw
      case rel => exact ⟨k1, n + nq, i9'.out.1, by first | rfl | go_num | (rw [i7'.out]), by first | rfl | exact World.drewN_drewN _ _ _⟩
      case measure => first | (simp only [intOf, Int.toNat_natCast]; exact i9'.out.2) | (simp [intOf]; have := i9'.out; have := i7'.out; omega)
    · have i9 : ¬ ((k1 : Int) < (n1 : Int)) := by omega
      have q0 := HC.out.1 0 (by omega)
      rw [HO.out.2.2.2, Nat.add_zero] at q0
      have qm := HC.out.1 m (by have := HN.out; omega)
      have im0 : (m : Int) < (n1 : Int) := by have := HN.out; omega
      have hOm := HO.out.1 m
      have iO1 : ((O m : Nat) : Int) < (T.length : Int) := by omega
      have iO0 : (0 : Int) ≤ ((O m : Nat) : Int) := by omega
      have i01 : (0 : Int) < (n1 : Int) := by omega
      clear hlt hk
      rcases HB.out with ⟨hr1, rfl, rfl, rfl, rfl⟩ | ⟨hr1, rfl, rfl, rfl⟩
      · have hn2 : (n1 : Int) - 2 = (m : Int) := by have := HN.out; omega
        have qn := HC.out.2 m
        rw [show O (m + 1) = O m by have := HO.out.2.2.1; rw [hr1] at this; exact this] at qn
        clear hr1
        generalize O m = om at *
        go_wp2_with fail
        have gd : Below w.heap.size w (w3.drewN n).drew := below_drewN (below_drewN g3 n) 1
        have sM : IntKind.i64.wrap (m : Int) = (m : Int) := IntWalk.i64_in _ (by omega)
        go_region_held3 (fun wx => wx.cell? ⟨w2.heap.size, 1, none⟩ = some (.int .i64 (m : Int)) ∧ wx.cell? ⟨w2.heap.size, 2, none⟩ = some (.int .i64 0) ∧ wx.cell? ⟨bq, oq + m, none⟩ = some (.int .i64 (om : Int)) ∧ wx.cell? ⟨bt, ot + om, none⟩ = some (.int .i64 (om : Int))) (go_keep) (first
          | (go_at_call 16; refine (xfixed_any _).mono ?_; rintro e w5 ⟨rfl, b5⟩; have e1 := World.cell?_of_block (a := ⟨w2.heap.size, 1, none⟩) (b5.block _ (World.block_lt_of_cell? _ _ c11)); have e2 := World.cell?_of_block (a := ⟨w2.heap.size, 2, none⟩) (b5.block _ (World.block_lt_of_cell? _ _ c12)); have e3 := World.cell?_of_block (a := ⟨bq, oq + m, none⟩) (b5.block _ (World.block_lt_of_cell? _ _ qm)); have e4 := World.cell?_of_block (a := ⟨bt, ot + om, none⟩) (b5.block _ (World.block_lt_of_cell? _ _ qn)); dsimp only))
        go_wp2_with fail
        go_ret
        exact ⟨rfl, gd.trans (b5.mono (Nat.le_trans z2' z3'))⟩
      · obtain ⟨jn, hjn⟩ : ∃ jn, jn = m + r := ⟨_, rfl⟩
        have qj := HC.out.1 jn (by have := HN.out; omega)
        rw [hjn, HO.out.2.2.1, ← hjn] at qj
        have hn2 : (n1 : Int) - 1 = (jn : Int) := by have := HN.out; omega
        have hj1 : (m : Int) < (jn : Int) - 1 := by omega
        have hj2 : (jn : Int) - (m : Int) = ri := by have := HRI.out; omega
        have ij0 : (jn : Int) < (n1 : Int) := by have := HN.out; omega
        have ij1 : (0 : Int) ≤ (jn : Int) := by omega
        rw [← hjn] at c12
        clear hr1 hjn
        generalize O m = om at *
        go_wp2_with fail
        have gd : Below w.heap.size w (w3.drewN n).drew := below_drewN (below_drewN g3 n) 1
        have sJ : IntKind.i64.wrap (jn : Int) = (jn : Int) := IntWalk.i64_in _ (by omega)
        have sJ1 : IntKind.i64.wrap ((jn : Int) - 1) = (jn : Int) - 1 := IntWalk.i64_in _ (by omega)
        have sR : IntKind.i64.wrap ri = ri := IntWalk.i64_in _ (by omega)
        go_region_held3 (fun wx => wx.cell? ⟨w2.heap.size, 0, none⟩ = some (.int .i64 2) ∧ wx.cell? ⟨w2.heap.size, 1, none⟩ = some (.int .i64 (m : Int)) ∧ wx.cell? ⟨w2.heap.size, 2, none⟩ = some (.int .i64 (jn : Int)) ∧ wx.cell? ⟨bq, oq + m, none⟩ = some (.int .i64 (om : Int)) ∧ wx.cell? ⟨bq, oq + jn, none⟩ = some (.int .i64 (om : Int))) (go_keep) (first
          | (go_at_call 16; refine (xfixed_any _).mono ?_; rintro e w5 ⟨rfl, b5⟩; have e0 := World.cell?_of_block (a := ⟨w2.heap.size, 0, none⟩) (b5.block _ (World.block_lt_of_cell? _ _ c10)); have e1 := World.cell?_of_block (a := ⟨w2.heap.size, 1, none⟩) (b5.block _ (World.block_lt_of_cell? _ _ c11)); have e2 := World.cell?_of_block (a := ⟨w2.heap.size, 2, none⟩) (b5.block _ (World.block_lt_of_cell? _ _ c12)); have e3 := World.cell?_of_block (a := ⟨bq, oq + m, none⟩) (b5.block _ (World.block_lt_of_cell? _ _ qm)); have e4 := World.cell?_of_block (a := ⟨bq, oq + jn, none⟩) (b5.block _ (World.block_lt_of_cell? _ _ qj)); dsimp only))
        go_wp2_with fail
        go_ret
        exact ⟨rfl, gd.trans (b5.mono (Nat.le_trans z2' z3'))⟩
end Go.Proofs.Ytgckcffgkgfakaa
