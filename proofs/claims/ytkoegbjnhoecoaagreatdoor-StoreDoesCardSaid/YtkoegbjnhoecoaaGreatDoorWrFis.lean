/- The reference's Files. -/
import Derived.Test.YtkoegbjnhoecoaaGreatDoorH5
import Derived.Test.YtkoegbjnhoecoaaGreatDoorWrW5s
namespace Go.Proofs.YtkoegbjnhoecoaaGreatDoor
open Go.RowKit Tx

attribute [local go_sem ↓] Go.wp_at_zero Go.wp_at_succ
set_option maxRecDepth 100000 in
set_option maxHeartbeats 4000000 in
theorem rFiles_any (v : Value) (l : List Wr.F) (w : World) (hr : RowC 2 ff w w.heap.size v l) (hl : (Wr.files l).length ≤ 10000000) :
    Calls Tryz.prog 35 #[v] w fun e w' => e = .returned (vs (Wr.files l)) ∧ Below w.heap.size w w' := by
  obtain ⟨A, cap, rfl, h1, h2, h3⟩ := hr.shape
  have HC := Lib.hid h3
  clear h3 hr
  go_enter Tryz.func35, Tryz.ntmps35
  go_wp2_with fail
  go_loopw [3, 4] (fun s i wr => ∃ k : Nat, k ≤ l.length ∧ i = .int .i64 k ∧ s = .string (bs (Wr.files (l.take k))) ∧ Below w.heap.size w wr) (fun _ i _ => l.length - (RowKit.intOf i).toNat)
  case atStart => exact ⟨0, Nat.zero_le _, rfl, rfl, Below.refl _ _⟩
  case round =>
    obtain ⟨k, hk, rfl, rfl, hbel⟩ := hrel
    have hle := hbel.size
    by_cases hlt : k < l.length
    · have hi : (k : Int) < (l.length : Int) := by omega
      have hi0 : (0 : Int) ≤ (k : Int) := by omega
      obtain ⟨b, off, rfl, hbl, hc⟩ := HC.out (by rintro rfl; simp at hlt)
      obtain ⟨c0, c1⟩ := ff_cells (fun i u hu => (hbel.cell (p := ⟨b, off + k * 2 + i, none⟩) hbl).trans (hc k hlt i u hu))
      have hle1 := files_le l (k + 1)
      have hft := files_take l k hlt
      rw [hft] at hle1
      have HF := Lib.hid hft
      clear hft hc
      generalize l[k] = f at *
      obtain ⟨x, y⟩ := f
      simp only at c0 c1 HF hle1
      have HS := Lib.hid (S2.of c0 c1)
      have hpx : x.length ≤ (Wr.put x).length := by simp [Wr.put]; omega
      have hpy : y.length ≤ (Wr.put y).length := by simp [Wr.put]; omega
      have HX := Lib.hid (fun wx => rPut_any x wx)
      have HY := Lib.hid (fun wx => rPut_any y wx)
      generalize Wr.put x = px at *
      generalize Wr.put y = py at *
      obtain ⟨acc, hacc⟩ : ∃ acc, acc = Wr.files (l.take k) := ⟨_, rfl⟩
      rw [← hacc] at hle1 ⊢
      have HAC := Lib.hid hacc
      clear hacc
      obtain ⟨T1, hT1⟩ : ∃ T, T = px ++ py := ⟨_, rfl⟩
      obtain ⟨T2, hT2⟩ : ∃ T, T = acc ++ T1 := ⟨_, rfl⟩
      simp only [List.length_append] at hle1
      have o1 : bs px ++ bs py = bs T1 := by rw [hT1, bs_append]
      have o2 : bs acc ++ bs T1 = bs T2 := by rw [hT2, bs_append]
      have p1 : ¬ (9223372036854775807 < (bs px).size + (bs py).size) := by rw [bs_size, bs_size]; omega
      have p2 : ¬ (9223372036854775807 < (bs acc).size + (bs T1).size) := by rw [bs_size, bs_size, hT1]; simp only [List.length_append]; omega
      have HW : Hid (Wr.files (l.take (k + 1)) = T2) := Lib.hid (by rw [HF.out, ← HAC.out, hT2, hT1])
      have hx1 : x.length ≤ 1000000000 := by omega
      have hy1 : y.length ≤ 1000000000 := by omega
      clear hT1 hT2 hle1 hpx hpy c0 c1
      obtain ⟨wq, hwq⟩ : ∃ wq, wq = wr := ⟨_, rfl⟩
      go_upto_region 5 with fail
      go_region_held3 (fun wx => wx.cell? ⟨b, off + k * 2, none⟩ = some (.string (bs x)) ∧ wx.cell? ⟨b, off + k * 2 + 1, none⟩ = some (.string (bs y)) ∧ Below wr.heap.size wr wx) (first
          | (exact HS.out _ k1)
          | (exact HS.out _ (Below.refl _ _).drew)
          | (exact HS.out _ (Below.refl _ _))) (first
        | (go_at_call 51; have y9 := k1; (first | refine (HY.out _ hy1).mono ?_ | refine (HX.out _ hx1).mono ?_); rintro e x1 ⟨rfl, b1⟩
           have k1 : Below wr.heap.size wr x1 := below_via (S2.bel (by assumption)) b1
           clear b1; dsimp only)
        | (go_at_call 51; (first | refine (HX.out _ hx1).mono ?_ | refine (HY.out _ hy1).mono ?_); rintro e x1 ⟨rfl, b1⟩
           have k1 : Below wr.heap.size wr x1 := below_via (S2.bel (by assumption)) b1
           clear b1; dsimp only))
      all_goals (go_wp2_with fail)
      all_goals go_roundw
      all_goals first
        | (case rel => exact ⟨k + 1, by omega, by go_num, by rw [HW.out], below_via hbel k1⟩)
        | (case measure => simp [RowKit.intOf]; omega)
    · obtain rfl : k = l.length := by omega
      have HT : Hid (l.take l.length = l) := Lib.hid (List.take_length)
      go_wp2_with fail
      go_ret
      exact ⟨by rw [HT.out]; rfl, hbel⟩

end Go.Proofs.YtkoegbjnhoecoaaGreatDoor
