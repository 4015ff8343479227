/- The walk of stetlaw23.FixTells. -/
import Derived.Test.YtgckcffgkgfakaaRows
import Derived.Test.YtgckcffgkgfakaaKit
import Derived.Test.YtgckcffgkgfakaaIn
import Derived.Test.YtgckcffgkgfakaaFxLaw
import Derived.Test.YtgckcffgkgfakaaFxFixed
namespace Go.Proofs.Ytgckcffgkgfakaa
open Go.RowKit

/-- What FixTells keeps while it calls: the states, both walks' states, the boxes. -/
structure Fx.T (w0 w : World) (vs ra rb : Value) (ys ls : List Int) (bn b7 b10 : Nat) (n0 n1 x y z : Int) : Prop where
  below : Below w0.heap.size w0 w
  size : w0.heap.size ≤ w.heap.size
  st : Ints w w.heap.size vs ys
  ra : Ints w w.heap.size ra ls
  rb : Ints w w.heap.size rb ls
  n : Ints w w.heap.size (.slice (some ⟨bn, 0, none⟩) 2 2) [n0, n1]
  b7 : Ints w w.heap.size (.slice (some ⟨b7, 0, none⟩) 3 3) [x, y, z]
  b10 : Ints w w.heap.size (.slice (some ⟨b10, 0, none⟩) 3 3) [x, y, z]
theorem Fx.T.step {w0 w w' : World} {vs ra rb : Value} {ys ls : List Int} {bn b7 b10 : Nat} {n0 n1 x y z : Int} (h : Fx.T w0 w vs ra rb ys ls bn b7 b10 n0 n1 x y z) (hb : Below w.heap.size w w') : Fx.T w0 w' vs ra rb ys ls bn b7 b10 n0 n1 x y z :=
  ⟨h.below.trans (hb.mono h.size), Nat.le_trans h.size hb.size, h.st.step hb, h.ra.step hb, h.rb.step hb, h.n.step hb, h.b7.step hb, h.b10.step hb⟩

set_option maxRecDepth 100000 in
set_option maxHeartbeats 2000000 in
theorem xtell_any (xs zs : List Int) (n0 n1 : Int) (v v2 : Value) (w : World) (hr : Ints w w.heap.size v xs) (hr2 : Ints w w.heap.size v2 zs) (ok : ∀ x ∈ xs, (Lit.int .i64 x).wf = true) (hn1 : (Lit.int .i64 n1).wf = true) :
    Calls Try.prog 3 #[v, v2, .agg #[.int .i64 n0, .int .i64 n1]] w fun e w' => e = .returned (.bool true) ∧ Below w.heap.size w w' := by
  obtain ⟨A, c, rfl, l1, m1, hA⟩ := hr.shape
  obtain ⟨A2, c2, rfl, l2, m2, hA2⟩ := hr2.shape
  obtain ⟨k, hk⟩ : ∃ k, k = min xs.length 60 := ⟨_, rfl⟩
  have hk1 : k ≤ xs.length := by omega
  have hk2 : k ≤ 60 := by omega
  obtain ⟨k', hk'⟩ : ∃ k', k' = min zs.length 60 := ⟨_, rfl⟩
  have hk1' : k' ≤ zs.length := by omega
  have hk2' : k' ≤ 60 := by omega
  have hbx : Below w.heap.size w (w.alloc (.cells #[.int .i64 n0, .int .i64 n1] 23)) := (Below.refl _ _).alloc (Nat.le_refl _) _
  have hcut := (row_cut2 hr (n := 0) (m := k) (Nat.zero_le _) hk1 _ _ _ rfl).step hbx
  have hcut' := (row_cut2 hr2 (n := 0) (m := k') (Nat.zero_le _) hk1' _ _ _ rfl).step hbx
  have hbox := (row_lit (Value.int .i64) [n0, n1] w 23 (by simp [maxLen])).more (B' := (w.alloc (.cells #[.int .i64 n0, .int .i64 n1] 23)).heap.size) (by simp)
  have hok : Hid (∀ x ∈ xs.take k, (Lit.int .i64 x).wf = true) := fun x hx => ok x (List.mem_of_mem_take hx)
  have HK := Lib.hid hk
  have HK' := Lib.hid hk'
  simp only [Nat.sub_zero, List.drop_zero] at hcut hcut'
  clear hk hk' hA hA2 ok
  go_enter Try.func3, Try.ntmps3
  generalize hW : w.alloc (.cells #[.int .i64 n0, .int .i64 n1] 23) = W at *
  go_upto_region 1 with fail
  go_cut [0, 5] (fun v p wx => p = .pointer (some ⟨w.heap.size, 0, none⟩) ∧ Ints W W.heap.size v (xs.take k) ∧ W = wx)
  case first =>
    go_wp2
    all_goals go_meet
    · obtain rfl : k = 60 := by have := HK.out; omega
      exact ⟨rfl, hcut, rfl⟩
    · obtain rfl : k = xs.length := by have := HK.out; omega
      exact ⟨rfl, hcut, rfl⟩
  case rest =>
    obtain ⟨rfl, hys, rfl⟩ := hcut
    have hl : (xs.take k).length ≤ 60 := by simp; omega
    clear hr hcut HK
    generalize xs.take k = ys at *
    go_upto_region 2 with fail
    go_cut [1] (fun v wx => Ints W W.heap.size v (zs.take k') ∧ W = wx)
    case first =>
      go_wp2
      all_goals go_meet
      · obtain rfl : k' = 60 := by have := HK'.out; omega
        exact ⟨hcut', rfl⟩
      · obtain rfl : k' = zs.length := by have := HK'.out; omega
        exact ⟨hcut', rfl⟩
    case rest =>
      obtain ⟨hls, rfl⟩ := hcut
      have hl2 : (zs.take k').length ≤ 60 := by simp; omega
      clear hr2 hcut' HK'
      generalize zs.take k' = ls at *
      obtain ⟨x, y, z, e, rs, hwk, hrw⟩ := walks_same ls n0 n1 (by omega)
      obtain ⟨p, q, e2, hcy, hrc⟩ := cycles_same ls n0 (by omega)
      obtain ⟨x2, y2, z2, hof, hro⟩ := ofs_same ys n1 (by omega) hok.out hn1
      have HC := Lib.hid (And.intro hwk (And.intro hrw (And.intro hcy (And.intro hrc (And.intro hof hro)))))
      clear hwk hrw hcy hrc hof hro hok hn1
      have hbox2 : Ints W W.heap.size (.slice (some ⟨w.heap.size, 0, none⟩) 2 2) [n0, n1] := by
        have h := hbox
        rw [show w.alloc (.cells ([n0, n1].map (Value.int .i64)).toArray 23) = W from hW] at h
        exact h
      have hsW : w.heap.size ≤ W.heap.size := hbx.size
      clear hbox hW
      obtain ⟨cn0, cn1⟩ := row_cell2 hbox2
      go_wp2_with fail
      refine (HC.out.1 _ _ hls).mono ?_
      rintro e' w1 ⟨ra, rfl, hra, b1⟩
      -- behind the first walk: its verdict is boxed
      have a1 : Below w1.heap.size w1 (w1.alloc (.cells #[.int .i64 x, .int .i64 y, .int .i64 z] 25)) := (Below.refl _ _).alloc (Nat.le_refl _) _
      have hb7 := (row_lit (Value.int .i64) [x, y, z] w1 25 (by simp [maxLen])).more (B' := (w1.alloc (.cells #[.int .i64 x, .int .i64 y, .int .i64 z] 25)).heap.size) (by simp)
      have g1 := (hbx.trans (b1.mono hsW)).trans (a1.mono (Nat.le_trans hsW b1.size))
      have hs1 := Nat.le_trans (Nat.le_trans hsW b1.size) a1.size
      have hys1 := (hys.step b1).step a1
      have hls1 := (hls.step b1).step a1
      have hn1 := (hbox2.step b1).step a1
      have hra1 := hra.step a1
      have hb71 : Ints (w1.alloc (.cells #[.int .i64 x, .int .i64 y, .int .i64 z] 25)) (w1.alloc (.cells #[.int .i64 x, .int .i64 y, .int .i64 z] 25)).heap.size (.slice (some ⟨w1.heap.size, 0, none⟩) 3 3) [x, y, z] := hb7
      clear hys hls hbox2 hra hb7 a1 b1 hbx cn0 cn1
      obtain ⟨cn0, cn1⟩ := row_cell2 hn1
      go_wp2_with fail
      refine (HC.out.2.1 _ _ hls1).mono ?_
      rintro e' w2 ⟨rb, rfl, hrb, b2⟩
      have a2 : Below w2.heap.size w2 (w2.alloc (.cells #[.int .i64 x, .int .i64 y, .int .i64 z] 29)) := (Below.refl _ _).alloc (Nat.le_refl _) _
      have hb10 := (row_lit (Value.int .i64) [x, y, z] w2 29 (by simp [maxLen])).more (B' := (w2.alloc (.cells #[.int .i64 x, .int .i64 y, .int .i64 z] 29)).heap.size) (by simp)
      have hT2 : Fx.T w (w2.alloc (.cells #[.int .i64 x, .int .i64 y, .int .i64 z] 29)) u0 ra rb ys rs w.heap.size w1.heap.size w2.heap.size n0 n1 x y z :=
        ⟨(g1.trans (b2.mono hs1)).trans (a2.mono (Nat.le_trans hs1 b2.size)), Nat.le_trans (Nat.le_trans hs1 b2.size) a2.size, (hys1.step b2).step a2, (hra1.step b2).step a2, hrb.step a2, (hn1.step b2).step a2, (hb71.step b2).step a2, hb10⟩
      have hls2 := (hls1.step b2).step a2
      clear hys1 hls1 hn1 hra1 hb71 hb10 a2 b2 g1 hrb cn0 cn1 hs1
      obtain ⟨cn0, cn1⟩ := row_cell2 hT2.n
      go_wp2_with fail
      refine (HC.out.2.2.1 _ _ hls2).mono ?_
      rintro e' w3 ⟨rfl, b3⟩
      have hT3 := hT2.step b3
      have hls3 := hls2.step b3
      clear hT2 hls2 b3 cn0 cn1
      obtain ⟨cn0, cn1⟩ := row_cell2 hT3.n
      go_wp2_with fail
      refine (HC.out.2.2.2.1 _ _ hls3).mono ?_
      rintro e' w4 ⟨rfl, b4⟩
      have hT4 := hT3.step b4
      clear hT3 hls3 b4 cn0 cn1
      obtain ⟨cn0, cn1⟩ := row_cell2 hT4.n
      obtain ⟨c70, c71, c72⟩ := row_cell3 hT4.b7
      obtain ⟨d70, d71, d72⟩ := row_cell3 hT4.b10
      go_wp2_with fail
      have hTd := hT4.step (below_of_drewN 1)
      go_region_held3 (fun wx => wx.cell? ⟨w.heap.size, 1, none⟩ = some (.int .i64 n1) ∧ wx.cell? ⟨w1.heap.size, 0, none⟩ = some (.int .i64 x) ∧ wx.cell? ⟨w1.heap.size, 1, none⟩ = some (.int .i64 y) ∧ wx.cell? ⟨w1.heap.size, 2, none⟩ = some (.int .i64 z) ∧ wx.cell? ⟨w2.heap.size, 0, none⟩ = some (.int .i64 x) ∧ wx.cell? ⟨w2.heap.size, 1, none⟩ = some (.int .i64 y) ∧ wx.cell? ⟨w2.heap.size, 2, none⟩ = some (.int .i64 z)) (go_keep) (first
        | (go_at_call 16; have gd := hT9; clear gd; refine (xfixed_any _).mono ?_; rintro e' wa ⟨rfl, hb⟩; have hT10 := hT9.step hb; clear hb; obtain ⟨_, k1⟩ := row_cell2 hT10.n; obtain ⟨k2, k3, k4⟩ := row_cell3 hT10.b7; obtain ⟨k5, k6, k7⟩ := row_cell3 hT10.b10; dsimp only)
        | (go_at_call 15; have gd := hT8; clear gd; refine (rInts_below rs _ _ _ _ _ hT8.ra hT8.rb).mono ?_; rintro e' w9 ⟨rfl, hb⟩; have hT9 := hT8.step hb; clear hb; obtain ⟨_, k1⟩ := row_cell2 hT9.n; obtain ⟨k2, k3, k4⟩ := row_cell3 hT9.b7; obtain ⟨k5, k6, k7⟩ := row_cell3 hT9.b10; dsimp only)
        | (go_at_call 12; have gd := hT7; clear gd; refine (ref_any x y z _).mono ?_; rintro e' w8 ⟨rfl, hb⟩; have hT8 := hT7.step hb; clear hb; obtain ⟨_, k1⟩ := row_cell2 hT8.n; obtain ⟨k2, k3, k4⟩ := row_cell3 hT8.b7; obtain ⟨k5, k6, k7⟩ := row_cell3 hT8.b10; dsimp only)
        | (go_at_call 14; have gd := hT6; clear gd; refine (HC.out.2.2.2.2.2 _ _ hT6.st).mono ?_; rintro e' w7 ⟨rfl, hb⟩; have hT7 := hT6.step hb; clear hb; obtain ⟨_, k1⟩ := row_cell2 hT7.n; obtain ⟨k2, k3, k4⟩ := row_cell3 hT7.b7; obtain ⟨k5, k6, k7⟩ := row_cell3 hT7.b10; dsimp only)
        | (go_at_call 12; have gd := hT5; clear gd; refine (ref_any x2 y2 z2 _).mono ?_; rintro e' w6 ⟨rfl, hb⟩; have hT6 := hT5.step hb; clear hb; obtain ⟨_, k1⟩ := row_cell2 hT6.n; obtain ⟨k2, k3, k4⟩ := row_cell3 hT6.b7; obtain ⟨k5, k6, k7⟩ := row_cell3 hT6.b10; dsimp only)
        | (go_at_call 13; refine (HC.out.2.2.2.2.1 _ _ hTd.st).mono ?_; rintro e' w5 ⟨rfl, hb⟩; have hT5 := hTd.step hb; clear hb; obtain ⟨_, k1⟩ := row_cell2 hT5.n; obtain ⟨k2, k3, k4⟩ := row_cell3 hT5.b7; obtain ⟨k5, k6, k7⟩ := row_cell3 hT5.b10; dsimp only))
      go_wp2_with fail
      go_ret
      exact ⟨rfl, hT10.below⟩
end Go.Proofs.Ytgckcffgkgfakaa
