/- stetlaw03.fixed: the calls whose answers the document fixes. -/
import Derived.Test.YtmgfbmkfgbildaaDoorWrFi
import Derived.Test.YtmgfbmkfgbildaaDoorWo
namespace Go.Proofs.YtmgfbmkfgbildaaDoor
open Go.RowKit Tx

theorem put_small (x : Wr.Bs) (h : x.length < 10) : Wr.put x = UInt8.ofNat (48 + x.length) :: 58 :: (x ++ [44]) := by
  unfold Wr.put
  rw [Lib.decDigits, dif_pos h]
  rfl
theorem get0L (w : World) (hg : Gl w) : Calls Tryd.prog 9 #[.string ⟨#[120, 53, 58, 104, 101, 108, 108, 111, 44]⟩, .int .i64 1, .int .i64 5] w fun e w' => e = .returned (.tuple #[.string ⟨#[104, 101, 108, 108, 111]⟩, .int .i64 9, .int .i64 0]) ∧ Below w.heap.size w w' := by
  have h := wGet_any [120, 53, 58, 104, 101, 108, 108, 111, 44] 1 5 w (by decide) (by decide) (by decide) hg.et
  rw [show getR [120, 53, 58, 104, 101, 108, 108, 111, 44] 1 5 = .ok ([104, 101, 108, 108, 111], 9) by kernel_rfl] at h
  exact h
theorem get1L (w : World) (hg : Gl w) : Calls Tryd.prog 9 #[.string ⟨#[48, 53, 58, 104, 101, 108, 108, 111, 44]⟩, .int .i64 0, .int .i64 9] w fun e w' => e = .returned (.tuple #[.string ⟨#[]⟩, .int .i64 0, .int .i64 5]) ∧ Below w.heap.size w w' := by
  have h := wGet_any [48, 53, 58, 104, 101, 108, 108, 111, 44] 0 9 w (by decide) (by decide) (by decide) hg.et
  rw [show getR [48, 53, 58, 104, 101, 108, 108, 111, 44] 0 9 = .error 5 by kernel_rfl] at h
  exact h
theorem get2L (w : World) (hg : Gl w) : Calls Tryd.prog 9 #[.string ⟨#[53, 58, 104, 101, 108, 108, 111, 44]⟩, .int .i64 0, .int .i64 4] w fun e w' => e = .returned (.tuple #[.string ⟨#[]⟩, .int .i64 0, .int .i64 3]) ∧ Below w.heap.size w w' := by
  have h := wGet_any [53, 58, 104, 101, 108, 108, 111, 44] 0 4 w (by decide) (by decide) (by decide) hg.et
  rw [show getR [53, 58, 104, 101, 108, 108, 111, 44] 0 4 = .error 3 by kernel_rfl] at h
  exact h
theorem get3L (w : World) (hg : Gl w) : Calls Tryd.prog 9 #[.string ⟨#[53, 58, 104, 101, 108, 108, 111]⟩, .int .i64 0, .int .i64 9] w fun e w' => e = .returned (.tuple #[.string ⟨#[]⟩, .int .i64 0, .int .i64 6]) ∧ Below w.heap.size w w' := by
  have h := wGet_any [53, 58, 104, 101, 108, 108, 111] 0 9 w (by decide) (by decide) (by decide) hg.et
  rw [show getR [53, 58, 104, 101, 108, 108, 111] 0 9 = .error 6 by kernel_rfl] at h
  exact h
theorem get4L (w : World) (hg : Gl w) : Calls Tryd.prog 9 #[.string ⟨#[53, 58, 104, 101, 108, 108, 111, 59]⟩, .int .i64 0, .int .i64 9] w fun e w' => e = .returned (.tuple #[.string ⟨#[]⟩, .int .i64 0, .int .i64 5]) ∧ Below w.heap.size w w' := by
  have h := wGet_any [53, 58, 104, 101, 108, 108, 111, 59] 0 9 w (by decide) (by decide) (by decide) hg.et
  rw [show getR [53, 58, 104, 101, 108, 108, 111, 59] 0 9 = .error 5 by kernel_rfl] at h
  exact h
theorem get5L (w : World) (hg : Gl w) : Calls Tryd.prog 9 #[.string ⟨#[58]⟩, .int .i64 0, .int .i64 9] w fun e w' => e = .returned (.tuple #[.string ⟨#[]⟩, .int .i64 0, .int .i64 5]) ∧ Below w.heap.size w w' := by
  have h := wGet_any [58] 0 9 w (by decide) (by decide) (by decide) hg.et
  rw [show getR [58] 0 9 = .error 5 by kernel_rfl] at h
  exact h
theorem get6L (w : World) (hg : Gl w) : Calls Tryd.prog 9 #[.string ⟨#[49, 48, 48, 48, 48, 48, 48, 58]⟩, .int .i64 0, .int .i64 9] w fun e w' => e = .returned (.tuple #[.string ⟨#[]⟩, .int .i64 0, .int .i64 3]) ∧ Below w.heap.size w w' := by
  have h := wGet_any [49, 48, 48, 48, 48, 48, 48, 58] 0 9 w (by decide) (by decide) (by decide) hg.et
  rw [show getR [49, 48, 48, 48, 48, 48, 48, 58] 0 9 = .error 3 by kernel_rfl] at h
  exact h
theorem get7L (w : World) (hg : Gl w) : Calls Tryd.prog 9 #[.string ⟨#[]⟩, .int .i64 1, .int .i64 9] w fun e w' => e = .returned (.tuple #[.string ⟨#[]⟩, .int .i64 0, .int .i64 1]) ∧ Below w.heap.size w w' := by
  have h := wGet_any [] 1 9 w (by decide) (by decide) (by decide) hg.et
  rw [show getR [] 1 9 = .error 1 by kernel_rfl] at h
  exact h
theorem get8L (w : World) (hg : Gl w) : Calls Tryd.prog 9 #[.string ⟨#[]⟩, .int .i64 0, .int .i64 9] w fun e w' => e = .returned (.tuple #[.string ⟨#[]⟩, .int .i64 0, .int .i64 6]) ∧ Below w.heap.size w w' := by
  have h := wGet_any [] 0 9 w (by decide) (by decide) (by decide) hg.et
  rw [show getR [] 0 9 = .error 6 by kernel_rfl] at h
  exact h
theorem all1 : Wr.all [49, 58, 97, 44, 48, 58, 44, 49, 58, 98, 44, 49, 58, 120, 44] = .ok [[97], [], [98], [120]] := by
  have h := Wr.all_puts [[97], [], [98], [120]] (by decide)
  have e : Wr.puts [[97], [], [98], [120]] = [49, 58, 97, 44, 48, 58, 44, 49, 58, 98, 44, 49, 58, 120, 44] := by
    unfold Wr.puts
    simp only [List.map_cons, List.map_nil]
    rw [put_small [97] (by decide), put_small [] (by decide), put_small [98] (by decide), put_small [120] (by decide)]
    decide
  rw [e] at h
  exact h
theorem all2 : Wr.all [49, 58, 98, 44, 48, 58, 44, 49, 58, 97, 44, 48, 58, 44] = .ok [[98], [], [97], []] := by
  have h := Wr.all_puts [[98], [], [97], []] (by decide)
  have e : Wr.puts [[98], [], [97], []] = [49, 58, 98, 44, 48, 58, 44, 49, 58, 97, 44, 48, 58, 44] := by
    unfold Wr.puts
    simp only [List.map_cons, List.map_nil]
    rw [put_small [98] (by decide), put_small [] (by decide), put_small [97] (by decide)]
    decide
  rw [e] at h
  exact h
theorem all3 : Wr.all [48, 58, 44, 49, 58, 44, 44] = .ok [[], [44]] := by
  have h := Wr.all_puts [[], [44]] (by decide)
  have e : Wr.puts [[], [44]] = [48, 58, 44, 49, 58, 44, 44] := by
    unfold Wr.puts
    simp only [List.map_cons, List.map_nil]
    rw [put_small [] (by decide), put_small [44] (by decide)]
    decide
  rw [e] at h
  exact h
def L1 : List Wr.F := [([97], []), ([98], [120])]
theorem files1 : Wr.files L1 = [49, 58, 97, 44, 48, 58, 44, 49, 58, 98, 44, 49, 58, 120, 44] := by
  rw [Wr.files_flat]
  show Wr.puts [[97], [], [98], [120]] = _
  unfold Wr.puts
  simp only [List.map_cons, List.map_nil]
  rw [put_small [97] (by decide), put_small [] (by decide), put_small [98] (by decide), put_small [120] (by decide)]
  decide
theorem parse1L (w : World) (hg : Gl w) : Calls Tryd.prog 13 #[.string ⟨#[49, 58, 97, 44, 48, 58, 44, 49, 58, 98, 44, 49, 58, 120, 44]⟩] w fun e w' => ∃ v, e = .returned (.tuple #[v, .int .i64 0]) ∧ RowC 2 ff w' w'.heap.size v L1 ∧ Below w.heap.size w w' := by
  have hp : Wr.parse [49, 58, 97, 44, 48, 58, 44, 49, 58, 98, 44, 49, 58, 120, 44] = .ok L1 := by unfold Wr.parse; rw [all1]; exact (by kernel_rfl : (if 4 % 2 = 1 then Except.error 5 else if Wr.right L1 = true then Except.ok L1 else Except.error 5) = Except.ok L1)
  refine (wParse_any [49, 58, 97, 44, 48, 58, 44, 49, 58, 98, 44, 49, 58, 120, 44] w (by decide) hg).mono ?_
  rintro e w' ⟨h1, v, h2, h3⟩
  refine ⟨v, ?_, ?_, h1⟩
  · rw [h2]; unfold parE; rw [hp]; rfl
  · unfold parL at h3; rw [hp] at h3; exact h3
theorem parse2L (w : World) (hg : Gl w) : Calls Tryd.prog 13 #[.string ⟨#[49, 58, 98, 44, 48, 58, 44, 49, 58, 97, 44, 48, 58, 44]⟩] w fun e w' => ∃ v, e = .returned (.tuple #[v, .int .i64 5]) ∧ Below w.heap.size w w' := by
  have hp : Wr.parse [49, 58, 98, 44, 48, 58, 44, 49, 58, 97, 44, 48, 58, 44] = .error 5 := by unfold Wr.parse; rw [all2]; exact (by kernel_rfl : (if 4 % 2 = 1 then Except.error 5 else if Wr.right (Wr.pairs [[98], [], [97], []]) = true then Except.ok (Wr.pairs [[98], [], [97], []]) else Except.error 5) = (Except.error 5 : Except Nat (List Wr.F)))
  refine (wParse_any [49, 58, 98, 44, 48, 58, 44, 49, 58, 97, 44, 48, 58, 44] w (by decide) hg).mono ?_
  rintro e w' ⟨h1, v, h2, h3⟩
  refine ⟨v, ?_, h1⟩
  rw [h2]; unfold parE; rw [hp]; rfl
theorem allL3 (w : World) (hg : Gl w) : Calls Tryd.prog 11 #[.string ⟨#[48, 58, 44, 49, 58, 44, 44]⟩] w fun e w' => ∃ v, e = .returned (.tuple #[v, .int .i64 0]) ∧ Row vs w' w'.heap.size v [[], [44]] ∧ Below w.heap.size w w' := by
  refine (all_any [48, 58, 44, 49, 58, 44, 44] w (by decide) hg.et).mono ?_
  rintro e w' ⟨h1, v, h2, h3⟩
  refine ⟨v, ?_, ?_, h1⟩
  · rw [h2]; unfold allE; rw [all3]; rfl
  · unfold allL at h3; rw [all3] at h3; exact h3
theorem putL1 (w : World) (hg : Gl w) : Calls Tryd.prog 15 #[.string ⟨#[104, 101, 108, 108, 111]⟩] w fun e w' => e = .returned (.string ⟨#[53, 58, 104, 101, 108, 108, 111, 44]⟩) ∧ Below w.heap.size w w' := by
  have h := wPut_any [104, 101, 108, 108, 111] w (by decide) hg
  rw [show Wr.put [104, 101, 108, 108, 111] = [53, 58, 104, 101, 108, 108, 111, 44] by rw [put_small _ (by decide)]; decide] at h
  exact h
theorem putL2 (w : World) (hg : Gl w) : Calls Tryd.prog 15 #[.string ⟨#[]⟩] w fun e w' => e = .returned (.string ⟨#[48, 58, 44]⟩) ∧ Below w.heap.size w w' := by
  have h := wPut_any [] w (by decide) hg
  rw [show Wr.put [] = [48, 58, 44] by rw [put_small _ (by decide)]; decide] at h
  exact h
theorem filesL (v : Value) (w : World) (hr : RowC 2 ff w w.heap.size v L1) (hg : Gl w) : Calls Tryd.prog 21 #[v] w fun e w' => e = .returned (.string ⟨#[49, 58, 97, 44, 48, 58, 44, 49, 58, 98, 44, 49, 58, 120, 44]⟩) ∧ Below w.heap.size w w' := by
  have h := wFiles_any v L1 w hr (by rw [files1]; decide) hg
  rw [files1] at h
  exact h
theorem via_lit {w w1 w2 : World} {o : Obj} (h : Below w.heap.size w w1) (hb : Below (w1.alloc o).heap.size (w1.alloc o) w2) : Below w.heap.size w w2 := below_via (below_via h ((Below.refl _ _).alloc (Nat.le_refl _) o)) hb
theorem lit_only {w1 w2 : World} {o : Obj} (hb : Below (w1.alloc o).heap.size (w1.alloc o) w2) : Below w1.heap.size w1 w2 := via_lit (Below.refl _ _) hb
theorem wordsL (v : Value) (w : World) (g : Nat) (hg : g = w.heap.size) (hr : Row vs w w.heap.size v [[], [44]]) :
    Calls Tryd.prog 17 #[v, .slice (some ⟨g, 0, none⟩) 2 2] (w.alloc (.cells #[.string ⟨#[]⟩, .string ⟨#[44]⟩] 9)) fun e w' => e = .returned (.bool true) ∧ Below w.heap.size w w' := by
  subst hg
  have h2 := row_lit vs [[], [44]] w 9 (by decide)
  have h := words2_any v _ _ _ _ ((hr.alloc (Nat.le_refl _) _).more (by simp)) (h2.more (by simp)) (by decide) (by decide)
  exact h.mono fun e w' ⟨h1, n, h3⟩ => ⟨by rw [h1]; exact ret_bool (decide_eq_true rfl), by rw [h3]; exact below_drewN ((Below.refl _ _).alloc (Nat.le_refl _) _) n⟩

set_option maxRecDepth 100000 in
set_option maxHeartbeats 4000000 in
theorem fixed_any (w : World) (hg : Gl w) : Calls Tryd.prog 19 #[] w fun e w' => e = .returned (.bool true) ∧ Below w.heap.size w w' := by
  have HG := Lib.hid hg
  clear hg
  go_enter Tryd.func19, Tryd.ntmps19
  go_wp2_with fail
  refine (get0L _ HG.out).mono ?_
  rintro e w1 ⟨rfl, hb⟩
  have HB := Lib.hid hb
  replace HG := Lib.hid (HG.out.below hb)
  clear hb
  go_wp2_with fail
  refine (get1L _ HG.out).mono ?_
  rintro e w2 ⟨rfl, hb⟩
  replace HB := Lib.hid (below_via HB.out hb)
  replace HG := Lib.hid (HG.out.below hb)
  clear hb
  go_wp2_with fail
  refine (get2L _ HG.out).mono ?_
  rintro e w3 ⟨rfl, hb⟩
  replace HB := Lib.hid (below_via HB.out hb)
  replace HG := Lib.hid (HG.out.below hb)
  clear hb
  go_wp2_with fail
  refine (get3L _ HG.out).mono ?_
  rintro e w4 ⟨rfl, hb⟩
  replace HB := Lib.hid (below_via HB.out hb)
  replace HG := Lib.hid (HG.out.below hb)
  clear hb
  go_wp2_with fail
  refine (get4L _ HG.out).mono ?_
  rintro e w5 ⟨rfl, hb⟩
  replace HB := Lib.hid (below_via HB.out hb)
  replace HG := Lib.hid (HG.out.below hb)
  clear hb
  go_wp2_with fail
  refine (get5L _ HG.out).mono ?_
  rintro e w6 ⟨rfl, hb⟩
  replace HB := Lib.hid (below_via HB.out hb)
  replace HG := Lib.hid (HG.out.below hb)
  clear hb
  go_wp2_with fail
  refine (get6L _ HG.out).mono ?_
  rintro e w7 ⟨rfl, hb⟩
  replace HB := Lib.hid (below_via HB.out hb)
  replace HG := Lib.hid (HG.out.below hb)
  clear hb
  go_wp2_with fail
  refine (get7L _ HG.out).mono ?_
  rintro e w8 ⟨rfl, hb⟩
  replace HB := Lib.hid (below_via HB.out hb)
  replace HG := Lib.hid (HG.out.below hb)
  clear hb
  go_wp2_with fail
  refine (get8L _ HG.out).mono ?_
  rintro e w9 ⟨rfl, hb⟩
  replace HB := Lib.hid (below_via HB.out hb)
  replace HG := Lib.hid (HG.out.below hb)
  clear hb
  go_wp2_with fail
  refine (parse1L _ HG.out).mono ?_
  rintro e w10 ⟨v1, rfl, hr1, hb⟩
  replace HB := Lib.hid (below_via HB.out hb)
  replace HG := Lib.hid (HG.out.below hb)
  clear hb
  have R1 := Lib.hid hr1
  obtain ⟨A1, c1, rfl, q1, q2, q3⟩ := hr1.shape
  have hl1 : L1.length = 2 := rfl
  rw [hl1] at R1 ⊢
  clear hr1 q3
  go_wp2_with fail
  refine (parse2L _ HG.out).mono ?_
  rintro e w11 ⟨v2, rfl, hb⟩
  replace HB := Lib.hid (below_via HB.out hb)
  replace HG := Lib.hid (HG.out.below hb)
  replace R1 := Lib.hid (R1.out.step hb)
  clear hb
  go_wp2_with fail
  refine (allL3 _ HG.out).mono ?_
  rintro e w12 ⟨v3, rfl, hr3, hb⟩
  replace HB := Lib.hid (below_via HB.out hb)
  replace HG := Lib.hid (HG.out.below hb)
  replace R1 := Lib.hid (R1.out.step hb)
  clear hb
  have R3 := Lib.hid hr3
  obtain ⟨A3, c3, rfl, z1, z2, z3⟩ := hr3.shape
  have hl3 : ([[], [44]] : List Bs).length = 2 := rfl
  rw [hl3] at R3 ⊢
  clear hr3 z3
  go_wp2_with fail
  refine (putL1 _ HG.out).mono ?_
  rintro e w13 ⟨rfl, hb⟩
  replace HB := Lib.hid (below_via HB.out hb)
  replace HG := Lib.hid (HG.out.below hb)
  replace R1 := Lib.hid (R1.out.step hb)
  replace R3 := Lib.hid (R3.out.step hb)
  clear hb
  go_wp2_with fail
  refine (putL2 _ HG.out).mono ?_
  rintro e w14 ⟨rfl, hb⟩
  replace HB := Lib.hid (below_via HB.out hb)
  replace HG := Lib.hid (HG.out.below hb)
  replace R1 := Lib.hid (R1.out.step hb)
  replace R3 := Lib.hid (R3.out.step hb)
  clear hb
  go_wp2_with fail
  refine (wordsL _ _ _ rfl R3.out).mono ?_
  rintro e w15 ⟨rfl, hb⟩
  replace HB := Lib.hid (below_via HB.out hb)
  replace HG := Lib.hid (HG.out.below hb)
  replace R1 := Lib.hid (R1.out.step hb)
  replace R3 := Lib.hid (R3.out.step hb)
  clear hb
  go_wp2_with fail
  refine (filesL _ _ R1.out HG.out).mono ?_
  rintro e w16 ⟨rfl, hb⟩
  replace HB := Lib.hid (below_via HB.out hb)
  replace HG := Lib.hid (HG.out.below hb)
  replace R1 := Lib.hid (R1.out.step hb)
  replace R3 := Lib.hid (R3.out.step hb)
  clear hb
  go_wp2_with fail
  go_ret
  exact ⟨rfl, HB.out⟩
end Go.Proofs.YtmgfbmkfgbildaaDoor
