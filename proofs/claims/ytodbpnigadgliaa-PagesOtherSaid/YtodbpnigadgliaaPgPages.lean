/- The walk of pages.Pages. -/
import Derived.Test.YtodbpnigadgliaaRows
import Derived.Test.YtodbpnigadgliaaPgPl
import Derived.Test.YtodbpnigadgliaaKit
import Derived.Test.YtodbpnigadgliaaPgOne
namespace Go.Proofs.Ytodbpnigadgliaa
open Go.RowKit

theorem intInfo : (Try.prog.info? 3).map (fun i => (i.zero, i.size, i.bytes)) = some (some (.int .i64 0), 1, 8) := by kernel_rfl

theorem one_row (xs : List Int) (h : Nat) (v : Value) (B : Nat) (w : World) (h1 : 1 ≤ h) (h2 : h ≤ 1000) (hx : xs ≠ []) (hr : Ints w B v xs) :
    Calls Try.prog 14 #[v, .int .i64 h] w fun e w' => e = .returned (.int .i64 (oneF xs h)) ∧ w = w' := by
  obtain ⟨A, c, rfl, l1, m1, hA⟩ := hr.shape
  obtain ⟨b, off, rfl, _, hc⟩ := hA hx
  exact one_any b off c xs h w h1 h2 (by omega) (fun j hj => by rw [hc j hj]; simp [hj])

set_option maxHeartbeats 1000000 in
theorem pages_any (xs : List Int) (h : Int) (v : Value) (w : World) (hr : Ints w w.heap.size v xs) (hx : xs.length ≤ 1000000) :
    Calls Try.prog 8 #[v, .int .i64 h] w fun e w' => ∃ r, e = .returned r ∧
      w'.ownsRow w.heap.size 3 1 r (pagesF xs (min (max h 1) 1000).toNat).length ((pagesF xs (min (max h 1) 1000).toNat).map (.int .i64)) ∧ Below w.heap.size w w' := by
  obtain ⟨i0, hi0, hz0, hz1, hz2⟩ := info_parts intInfo
  obtain ⟨m, hm⟩ : ∃ m : Nat, m = (min (max h 1) 1000).toNat := ⟨_, rfl⟩
  rw [← hm]
  have hm1 : 1 ≤ m := by omega
  have hm2 : m ≤ 1000 := by omega
  have HM := Lib.hid hm
  clear hm
  go_enter Try.func8, Try.ntmps8
  go_upto_region 1 with fail
  go_cut [1] (fun v wx => v = .int .i64 m ∧ w = wx)
  case first =>
    go_wp2
    all_goals go_meet
    all_goals exact ⟨by rw [HM.out]; congr 1; omega, rfl⟩
  case rest =>
    obtain ⟨rfl, rfl⟩ := hcut
    go_wp2
    go_loopw [0, 5] (fun v0 v5 wr => ∃ ys outs : List Int, Ints wr w.heap.size v0 ys ∧ ys.length + outs.length ≤ xs.length ∧ wr.ownsRow w.heap.size 3 1 v5 outs.length (outs.map (.int .i64)) ∧ Below w.heap.size w wr ∧
       Hid (outs ++ pagesF ys m = pagesF xs m)) (fun v0 _ _ => match v0 with | .slice _ n _ => n | _ => 0)
    case atStart => exact ⟨xs, [], hr, by simp, World.ownsRow_nil _ _ _ _, Below.refl _ _, rfl⟩
    case round =>
      obtain ⟨ys, outs, hys, hle, hown, hbel, HE⟩ := hrel
      obtain ⟨A, c, rfl, l1, m1, hA⟩ := hys.shape
      by_cases hne : ys = []
      · subst hne
        have HT : Hid (pagesF xs m = outs) := by show _ = _; rw [← HE.out, pagesF_nil]; simp
        clear HE hA
        go_wp2
        go_ret
        exact ⟨_, rfl, by rw [HT.out]; exact hown, hbel⟩
      · have hpos : 0 < ys.length := List.length_pos_iff.2 hne
        clear hA
        have hn1 := oneF_pos ys m hm1 hne
        have hn2 := oneF_le ys m
        go_wp2_with (first
          | (go_at_call 14; refine (one_row ys m _ _ _ hm1 hm2 hne hys).mono ?_; rintro e w' ⟨rfl, rfl⟩)
          | (at_builtin; refine wpList_app1 rfl (.tmp 16) (.tmp 18) 22 rfl w.heap.size 3 i0 (.int .i64 0) 8 Try.underlying22 hi0 hz0 hz1 hz2 rfl _ _ _ (.int .i64 (oneF ys m)) rfl rfl rfl hown hbel.size (by simp only [maxLen]; omega) (by omega) ?_; intro v' w1 hown' hbel' _))
        go_roundw
        case rel =>
          refine ⟨ys.drop (oneF ys m), outs ++ [(oneF ys m : Int)], ?_, by simp; omega, by simpa using hown', hbel.trans hbel', ?_⟩
          · simpa using row_cut (hys.below hbel' (Nat.le_refl _)) hn2 _ _ _ rfl
          · show _ = _
            rw [← HE.out, pagesF_cons ys m hm1 hne]; simp
        case measure => simp; omega

theorem pages_ints (xs : List Int) (h : Int) (v : Value) (B : Nat) (w : World) (ys : List Int) (he : pagesF xs (min (max h 1) 1000).toNat = ys) (hr : Ints w B v xs) (hB : B ≤ w.heap.size) (hx : xs.length ≤ 1000000) :
    Calls Try.prog 8 #[v, .int .i64 h] w fun e w' => ∃ r, e = .returned r ∧ Ints w' w'.heap.size r ys ∧ Below w.heap.size w w' :=
  (pages_any xs h v w (hr.more hB) hx).mono fun _ _ ⟨r, h1, h2, h3⟩ => ⟨r, h1, he ▸ Row.own h2, h3⟩
end Go.Proofs.Ytodbpnigadgliaa
