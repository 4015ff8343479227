/- The walk of stetlaw03.WireFiles. -/
import Derived.Test.YtmgfbmkfgbildaaDoorWrL1
import Derived.Test.YtmgfbmkfgbildaaDoorWrM2
namespace Go.Proofs.YtmgfbmkfgbildaaDoor
open Go.RowKit Tx

theorem put_le (x : Wr.Bs) (h : x.length ≤ 100000) : (Wr.put x).length ≤ x.length + 12 := by
  have := dig_len x.length (by omega)
  simp [Wr.put]
  omega
theorem files_len (m : List Wr.F) (h : ∀ f ∈ m, Wr.fileOk f = true) : (Wr.files m).length ≤ 4048 * m.length := by
  induction m with
  | nil => simp [Wr.files]
  | cons f m ih =>
    have h1 := Wr.fileOk_len (h f (by simp))
    have h2 := ih (fun g hg => h g (by simp [hg]))
    have h3 := put_le f.1 (by omega)
    have h4 := put_le f.2 (by omega)
    rw [show Wr.files (f :: m) = Wr.put f.1 ++ Wr.put f.2 ++ Wr.files m by simp [Wr.files]]
    simp
    omega

set_option maxRecDepth 100000 in
set_option maxHeartbeats 4000000 in
theorem wireFiles_any (v : Value) (l : List Wr.F) (w : World) (hg : Gl w) (hr : RowC 2 ff w w.heap.size v l) (ok : ∀ f ∈ l, FOk f) :
    Calls Tryd.prog 4 #[v] w fun e w' => e = .returned (.bool true) ∧ Below w.heap.size w w' := by
  have HG := Lib.hid hg
  have HM := Lib.hid (mapF_any v l 40 4000 w hr ok (by omega) (by omega))
  have hR := Wr.mapF_right l 40 4000
  have hle := hR.most
  have hfl := files_len _ hR.ok
  have hp := Wr.parse_files _ hR.right
  obtain ⟨A, cap, rfl, _⟩ := hr.shape
  generalize Wr.mapF l 40 4000 = m at *
  have E : Hid (parE (Wr.files m) = 0 ∧ parL (Wr.files m) = m) := Lib.hid (by unfold parE parL; rw [hp]; exact ⟨rfl, rfl⟩)
  have hfl2 : (Wr.files m).length ≤ 1000000 := by omega
  have hml : m.length < 1000000 := by omega
  clear hg hR hp hr hfl
  go_enter Tryd.func4, Tryd.ntmps4
  go_wp2_with fail
  refine HM.out.mono ?_
  rintro e w1 ⟨o, rfl, ho, hb⟩
  obtain ⟨A1, cap1, rfl, _⟩ := ho.shape
  have R1 := Lib.hid ho
  have HB := Lib.hid hb
  replace HG := Lib.hid (HG.out.below hb)
  clear hb ho
  go_wp2_with fail
  refine (wFiles_any _ m w1 R1.out (by omega) HG.out).mono ?_
  rintro e w2 ⟨rfl, hb⟩
  replace HB := Lib.hid (below_via HB.out hb)
  replace HG := Lib.hid (HG.out.below hb)
  replace R1 := Lib.hid (R1.out.step hb)
  clear hb
  go_wp2_with fail
  refine (wParse_any (Wr.files m) w2 hfl2 HG.out).mono ?_
  rintro e w3 ⟨hb, v2, rfl, r2⟩
  rw [E.out.1]
  rw [E.out.2] at r2
  obtain ⟨A2, cap2, rfl, _⟩ := r2.shape
  have R2 := Lib.hid r2
  replace HB := Lib.hid (below_via HB.out hb)
  replace HG := Lib.hid (HG.out.below hb)
  replace R1 := Lib.hid (R1.out.step hb)
  clear hb r2
  go_wp2_with fail
  refine (rFiles_any _ m w3 R1.out (by omega)).mono ?_
  rintro e w4 ⟨rfl, hb⟩
  replace HB := Lib.hid (below_via HB.out hb)
  replace HG := Lib.hid (HG.out.below hb)
  replace R1 := Lib.hid (R1.out.step hb)
  replace R2 := Lib.hid (R2.out.step hb)
  clear hb
  go_wp2_with fail
  refine (same_any _ _ m m _ R1.out R2.out hml hml).mono ?_
  rintro e w5 ⟨he, n, rfl⟩
  rw [decide_eq_true rfl] at he
  subst he
  have hd := below_of_drewN (B := w4.heap.size) (a := w4) n
  replace HB := Lib.hid (below_via HB.out hd)
  replace HG := Lib.hid (HG.out.below hd)
  clear hd R1 R2
  generalize w4.drewN n = w5 at *
  go_wp2_with fail
  refine (fixed_any _ HG.out).mono ?_
  rintro e w6 ⟨rfl, hb⟩
  go_wp2_with fail
  go_ret
  exact ⟨rfl, below_via HB.out hb⟩
end Go.Proofs.YtmgfbmkfgbildaaDoor
