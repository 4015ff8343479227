/- stetlaw11.Blocks, of what is the same. -/
import Derived.Test.YtjmmfihmamcopaaGreatDoorNbEx
namespace Go.Proofs.YtjmmfihmamcopaaGreatDoor
open Go.RowKit Tx Nb

def bkF (x : Int × Value) : List Value := [.int .i64 x.1, x.2]
theorem bkF_len (x : Int × Value) : (bkF x).length = 2 := rfl
/-- A row of blocks. -/
def BlRow (w : World) (v : Value) (l : List (Int × List Bs)) : Prop :=
  ∃ u : List (Int × Value), RowC 2 bkF w w.heap.size v u ∧ u.length = l.length ∧ ∀ j (h : j < u.length) (h' : j < l.length), u[j].1 = l[j].1 ∧ RowC 1 txF w w.heap.size u[j].2 l[j].2
theorem BlRow.step {w w' : World} {v : Value} {l : List (Int × List Bs)} (h : BlRow w v l) (hb : Below w.heap.size w w') : BlRow w' v l := by
  obtain ⟨u, h1, h2, h3⟩ := h
  exact ⟨u, h1.step hb, h2, fun j a b => ⟨(h3 j a b).1, (h3 j a b).2.step hb⟩⟩
set_option maxRecDepth 100000 in
set_option maxHeartbeats 16000000 in
theorem blocks_any {w : World} (v1 v2 : Value) (l : List (Int × List Bs)) (h1 : BlRow w v1 l) (h2 : BlRow w v2 l) (_hn : l.length < 1000000) (hm : ∀ x ∈ l, x.2.length < 1000000) :
    Calls Tryz.prog 17 #[v1, v2] w fun e w' => e = .returned (.bool true) ∧ ∃ n, w' = w.drewN n := by
  obtain ⟨u1, r1, l1, k1⟩ := h1
  obtain ⟨u2, r2, l2, k2⟩ := h2
  obtain ⟨A1, p1, rfl, _, _, z1⟩ := r1.shape
  obtain ⟨A2, p2, rfl, _, _, z2⟩ := r2.shape
  have Z1 := Lib.hid z1
  have Z2 := Lib.hid z2
  have K1 := Lib.hid k1
  have K2 := Lib.hid k2
  have HM := Lib.hid hm
  have L1 := Lib.hid l1
  have L2 := Lib.hid l2
  have hl2 : ((l.length : Int) != (l.length : Int)) = false := by simp
  rw [l1, l2]
  clear z1 z2 r1 r2 k1 k2 hm l1 l2
  go_enter Tryz.func17, Tryz.ntmps17
  go_wp2_with fail
  go_loopw [5] (fun i wr => ∃ j n : Nat, j ≤ l.length ∧ i = .int .i64 j ∧ wr = w.drewN n) (fun i _ => l.length - (intOf i).toNat)
  case atStart => exact ⟨0, 0, Nat.zero_le _, rfl, rfl⟩
  case round =>
    obtain ⟨j, n2, hj, rfl, rfl⟩ := hrel
    by_cases hjt : j < l.length
    · have j1 : j < u1.length := by rw [L1.out]; exact hjt
      have j2 : j < u2.length := by rw [L2.out]; exact hjt
      obtain ⟨g3, o3, rfl, hg3, hc3⟩ := Z1.out (by intro e; rw [e] at j1; simp at j1)
      obtain ⟨g4, o4, rfl, hg4, hc4⟩ := Z2.out (by intro e; rw [e] at j2; simp at j2)
      have x0 : w.cell? ⟨g3, o3 + j * 2, none⟩ = some (.int .i64 u1[j].1) := hc3 j j1 0 _ rfl
      have x1 : w.cell? ⟨g3, o3 + j * 2 + 1, none⟩ = some u1[j].2 := hc3 j j1 1 _ rfl
      have y0 : w.cell? ⟨g4, o4 + j * 2, none⟩ = some (.int .i64 u2[j].1) := hc4 j j2 0 _ rfl
      have y1 : w.cell? ⟨g4, o4 + j * 2 + 1, none⟩ = some u2[j].2 := hc4 j j2 1 _ rfl
      obtain ⟨q1, q2⟩ := K1.out j j1 hjt
      obtain ⟨q3, q4⟩ := K2.out j j2 hjt
      have hml := HM.out l[j] (List.getElem_mem hjt)
      rw [q1] at x0
      rw [q3] at y0
      generalize u1[j].2 = p2 at *
      generalize u2[j].2 = s2 at *
      have HWD := Lib.hid (fun n => words2_any p2 s2 l[j].2 l[j].2 (w.drewN n) (rows_bs (q2.step (below_of_drewN n))) (rows_bs (q4.step (below_of_drewN n))) hml hml)
      rw [show decide (l[j].2 = l[j].2) = true by simp] at HWD
      obtain ⟨P1, P2, hp, -⟩ := q2.shape
      obtain ⟨Q1, Q2, hq, -⟩ := q4.shape
      generalize l[j].1 = kd at *
      generalize l[j].2 = ws at *
      subst hp hq
      have hkk : (kd != kd) = false := by simp
      have m4 : (j : Int) < (l.length : Int) := by omega
      have m6 : (0 : Int) ≤ (j : Int) := by omega
      have hS0 : (fun wz : World => wz.cell? ⟨g3, o3 + j * 2, none⟩ = some (.int .i64 kd) ∧ wz.cell? ⟨g3, o3 + j * 2 + 1, none⟩ = some (.slice P1 ws.length P2) ∧ wz.cell? ⟨g4, o4 + j * 2, none⟩ = some (.int .i64 kd) ∧ wz.cell? ⟨g4, o4 + j * 2 + 1, none⟩ = some (.slice Q1 ws.length Q2)) (w.drewN n2).drew := ⟨x0, x1, y0, y1⟩
      clear hc3 hc4 q1 q2 q3 q4 hml
      go_upto_region 6 with fail
      refine wp_region_headS 22 (fun wz : World => wz.cell? ⟨g3, o3 + j * 2, none⟩ = some (.int .i64 kd) ∧ wz.cell? ⟨g3, o3 + j * 2 + 1, none⟩ = some (.slice P1 ws.length P2) ∧ wz.cell? ⟨g4, o4 + j * 2, none⟩ = some (.int .i64 kd) ∧ wz.cell? ⟨g4, o4 + j * 2 + 1, none⟩ = some (.slice Q1 ws.length Q2)) (by kernel_rfl) (by kernel_rfl) ?_
      refine WS_take (i := 0) (v := ?va0) (by simp only [List.getElem?_toArray, List.getElem?_cons_zero]; rfl) (by decide) (by kernel_rfl) (by kernel_rfl) (by intro _ _ _ h; exact h) (Or.inl ⟨by rfl, ?hya0⟩) hS0 ?resta0
      case hya0 =>
        intro wx hx
        obtain ⟨s1, s2, s3, s4⟩ := hx
        go_simp
        try with_reducible rfl
      try simp only [Act.put, List.setIfInBounds_toArray, List.set_cons_zero, List.set_cons_succ]
      refine WS_take (i := 1) (v := ?va1) (by simp only [List.getElem?_toArray, List.getElem?_cons_succ, List.getElem?_cons_zero]; rfl) (by decide) (by kernel_rfl) (by kernel_rfl) (by intro _ _ _ h; exact h) (Or.inl ⟨by rfl, ?hya1⟩) hS0 ?resta1
      case hya1 =>
        intro wx hx
        obtain ⟨s1, s2, s3, s4⟩ := hx
        go_simp
        try with_reducible rfl
      try simp only [Act.put, List.setIfInBounds_toArray, List.set_cons_zero, List.set_cons_succ]
      refine WS_take (i := 2) (v := ?va2) (by simp only [List.getElem?_toArray, List.getElem?_cons_succ, List.getElem?_cons_zero]; rfl) (by decide) (by kernel_rfl) (by kernel_rfl) (by intro _ _ _ h; exact h) (Or.inl ⟨by rfl, ?hya2⟩) hS0 ?resta2
      case hya2 =>
        intro wx hx
        obtain ⟨s1, s2, s3, s4⟩ := hx
        go_simp
        try with_reducible rfl
      try simp only [Act.put, List.setIfInBounds_toArray, List.set_cons_zero, List.set_cons_succ]
      refine WS_take (i := 3) (v := ?va3) (by simp only [List.getElem?_toArray, List.getElem?_cons_succ, List.getElem?_cons_zero]; rfl) (by decide) (by kernel_rfl) (by kernel_rfl) (by intro _ _ _ h; exact h) (Or.inl ⟨by rfl, ?hya3⟩) hS0 ?resta3
      case hya3 =>
        intro wx hx
        obtain ⟨s1, s2, s3, s4⟩ := hx
        go_simp
        try with_reducible rfl
      try simp only [Act.put, List.setIfInBounds_toArray, List.set_cons_zero, List.set_cons_succ]
      refine WS_take (i := 4) (v := ?va4) (by simp only [List.getElem?_toArray, List.getElem?_cons_succ, List.getElem?_cons_zero]; rfl) (by decide) (by kernel_rfl) (by kernel_rfl) (by intro _ _ _ h; exact h) (Or.inl ⟨by rfl, ?hya4⟩) hS0 ?resta4
      case hya4 =>
        intro wx hx
        obtain ⟨s1, s2, s3, s4⟩ := hx
        go_simp
        try with_reducible rfl
      try simp only [Act.put, List.setIfInBounds_toArray, List.set_cons_zero, List.set_cons_succ]
      refine WS_take (i := 5) (v := ?va5) (by simp only [List.getElem?_toArray, List.getElem?_cons_succ, List.getElem?_cons_zero]; rfl) (by decide) (by kernel_rfl) (by kernel_rfl) (by intro _ _ _ h; exact h) (Or.inl ⟨by rfl, ?hya5⟩) hS0 ?resta5
      case hya5 =>
        intro wx hx
        obtain ⟨s1, s2, s3, s4⟩ := hx
        go_simp
        try with_reducible rfl
      try simp only [Act.put, List.setIfInBounds_toArray, List.set_cons_zero, List.set_cons_succ]
      refine WS_take (i := 6) (v := ?va6) (by simp only [List.getElem?_toArray, List.getElem?_cons_succ, List.getElem?_cons_zero]; rfl) (by decide) (by kernel_rfl) (by kernel_rfl) (by intro _ _ _ h; exact h) (Or.inl ⟨by rfl, ?hya6⟩) hS0 ?resta6
      case hya6 =>
        intro wx hx
        obtain ⟨s1, s2, s3, s4⟩ := hx
        go_simp
        try with_reducible rfl
      try simp only [Act.put, List.setIfInBounds_toArray, List.set_cons_zero, List.set_cons_succ]
      refine WS_take (i := 7) (v := ?va7) (by simp only [List.getElem?_toArray, List.getElem?_cons_succ, List.getElem?_cons_zero]; rfl) (by decide) (by kernel_rfl) (by kernel_rfl) (by intro _ _ _ h; exact h) (Or.inl ⟨by rfl, ?hya7⟩) hS0 ?resta7
      case hya7 =>
        intro wx hx
        obtain ⟨s1, s2, s3, s4⟩ := hx
        go_simp
        try with_reducible rfl
      try simp only [Act.put, List.setIfInBounds_toArray, List.set_cons_zero, List.set_cons_succ]
      refine WS_take (i := 8) (v := ?va8) (by simp only [List.getElem?_toArray, List.getElem?_cons_succ, List.getElem?_cons_zero]; rfl) (by decide) (by kernel_rfl) (by kernel_rfl) (by intro _ _ _ h; exact h) (Or.inl ⟨by rfl, ?hya8⟩) hS0 ?resta8
      case hya8 =>
        intro wx hx
        obtain ⟨s1, s2, s3, s4⟩ := hx
        go_simp
        try with_reducible rfl
      try simp only [Act.put, List.setIfInBounds_toArray, List.set_cons_zero, List.set_cons_succ]
      refine WS_take (i := 9) (v := ?va9) (by simp only [List.getElem?_toArray, List.getElem?_cons_succ, List.getElem?_cons_zero]; rfl) (by decide) (by kernel_rfl) (by kernel_rfl) (by intro _ _ _ h; exact h) (Or.inl ⟨by rfl, ?hya9⟩) hS0 ?resta9
      case hya9 =>
        intro wx hx
        obtain ⟨s1, s2, s3, s4⟩ := hx
        go_simp
        try with_reducible rfl
      try simp only [Act.put, List.setIfInBounds_toArray, List.set_cons_zero, List.set_cons_succ]
      refine WS_take (i := 10) (v := ?va10) (by simp only [List.getElem?_toArray, List.getElem?_cons_succ, List.getElem?_cons_zero]; rfl) (by decide) (by kernel_rfl) (by kernel_rfl) (by intro _ _ _ h; exact h) (Or.inl ⟨by rfl, ?hya10⟩) hS0 ?resta10
      case hya10 =>
        intro wx hx
        obtain ⟨s1, s2, s3, s4⟩ := hx
        go_simp
        try with_reducible rfl
      try simp only [Act.put, List.setIfInBounds_toArray, List.set_cons_zero, List.set_cons_succ]
      refine WS_take (i := 11) (v := ?va11) (by simp only [List.getElem?_toArray, List.getElem?_cons_succ, List.getElem?_cons_zero]; rfl) (by decide) (by kernel_rfl) (by kernel_rfl) (by intro _ _ _ h; exact h) (Or.inl ⟨by rfl, ?hya11⟩) hS0 ?resta11
      case hya11 =>
        intro wx hx
        obtain ⟨s1, s2, s3, s4⟩ := hx
        go_simp
        try with_reducible rfl
      try simp only [Act.put, List.setIfInBounds_toArray, List.set_cons_zero, List.set_cons_succ]
      refine WS_take (i := 12) (v := ?va12) (by simp only [List.getElem?_toArray, List.getElem?_cons_succ, List.getElem?_cons_zero]; rfl) (by decide) (by kernel_rfl) (by kernel_rfl) (by intro _ _ _ h; exact h) (Or.inl ⟨by rfl, ?hya12⟩) hS0 ?resta12
      case hya12 =>
        intro wx hx
        obtain ⟨s1, s2, s3, s4⟩ := hx
        go_simp
        try with_reducible rfl
      try simp only [Act.put, List.setIfInBounds_toArray, List.set_cons_zero, List.set_cons_succ]
      refine WS_take (i := 13) (v := ?va13) (by simp only [List.getElem?_toArray, List.getElem?_cons_succ, List.getElem?_cons_zero]; rfl) (by decide) (by kernel_rfl) (by kernel_rfl) (by intro _ _ _ h; exact h) (Or.inl ⟨by rfl, ?hya13⟩) hS0 ?resta13
      case hya13 =>
        intro wx hx
        obtain ⟨s1, s2, s3, s4⟩ := hx
        go_simp
        try with_reducible rfl
      try simp only [Act.put, List.setIfInBounds_toArray, List.set_cons_zero, List.set_cons_succ]
      refine WS_take (i := 14) (v := ?va14) (by simp only [List.getElem?_toArray, List.getElem?_cons_succ, List.getElem?_cons_zero]; rfl) (by decide) (by kernel_rfl) (by kernel_rfl) (by intro _ _ _ h; exact h) (Or.inl ⟨by rfl, ?hya14⟩) hS0 ?resta14
      case hya14 =>
        intro wx hx
        obtain ⟨s1, s2, s3, s4⟩ := hx
        go_simp
        try with_reducible rfl
      try simp only [Act.put, List.setIfInBounds_toArray, List.set_cons_zero, List.set_cons_succ]
      refine WS_take (i := 15) (v := ?va15) (by simp only [List.getElem?_toArray, List.getElem?_cons_succ, List.getElem?_cons_zero]; rfl) (by decide) (by kernel_rfl) (by kernel_rfl) (by intro _ _ _ h; exact h) (Or.inl ⟨by rfl, ?hya15⟩) hS0 ?resta15
      case hya15 =>
        intro wx hx
        obtain ⟨s1, s2, s3, s4⟩ := hx
        go_simp
        try with_reducible rfl
      try simp only [Act.put, List.setIfInBounds_toArray, List.set_cons_zero, List.set_cons_succ]
      refine WS_take (i := 16) (v := ?va16) (by simp only [List.getElem?_toArray, List.getElem?_cons_succ, List.getElem?_cons_zero]; rfl) (by decide) (by kernel_rfl) (by kernel_rfl) (by intro _ _ _ h; exact h) (Or.inl ⟨by rfl, ?hya16⟩) hS0 ?resta16
      case hya16 =>
        intro wx hx
        obtain ⟨s1, s2, s3, s4⟩ := hx
        go_simp
        try with_reducible rfl
      try simp only [Act.put, List.setIfInBounds_toArray, List.set_cons_zero, List.set_cons_succ]
      refine WS_take (i := 17) (v := ?va17) (by simp only [List.getElem?_toArray, List.getElem?_cons_succ, List.getElem?_cons_zero]; rfl) (by decide) (by kernel_rfl) (by kernel_rfl) (by intro _ _ _ h; exact h) (Or.inl ⟨by rfl, ?hya17⟩) hS0 ?resta17
      case hya17 =>
        intro wx hx
        obtain ⟨s1, s2, s3, s4⟩ := hx
        go_simp
        try with_reducible rfl
      try simp only [Act.put, List.setIfInBounds_toArray, List.set_cons_zero, List.set_cons_succ]
      refine WS_take (i := 18) (v := ?va18) (by simp only [List.getElem?_toArray, List.getElem?_cons_succ, List.getElem?_cons_zero]; rfl) (by decide) (by kernel_rfl) (by kernel_rfl) (by intro _ _ _ h; exact h) (Or.inl ⟨by rfl, ?hya18⟩) hS0 ?resta18
      case hya18 =>
        intro wx hx
        obtain ⟨s1, s2, s3, s4⟩ := hx
        go_simp
        try with_reducible rfl
      try simp only [Act.put, List.setIfInBounds_toArray, List.set_cons_zero, List.set_cons_succ]
      refine WS_take (i := 19) (v := ?va19) (by simp only [List.getElem?_toArray, List.getElem?_cons_succ, List.getElem?_cons_zero]; rfl) (by decide) (by kernel_rfl) (by kernel_rfl) (by intro _ _ _ h; exact h) (Or.inl ⟨by rfl, ?hya19⟩) hS0 ?resta19
      case hya19 =>
        intro wx hx
        obtain ⟨s1, s2, s3, s4⟩ := hx
        go_simp
        try with_reducible rfl
      try simp only [Act.put, List.setIfInBounds_toArray, List.set_cons_zero, List.set_cons_succ]
      refine WS_take (i := 20) (v := ?va20) (by simp only [List.getElem?_toArray, List.getElem?_cons_succ, List.getElem?_cons_zero]; rfl) (by decide) (by kernel_rfl) (by kernel_rfl) (by intro _ _ _ h; exact h) (Or.inl ⟨by rfl, ?hya20⟩) hS0 ?resta20
      case hya20 =>
        intro wx hx
        obtain ⟨s1, s2, s3, s4⟩ := hx
        go_simp
        try with_reducible rfl
      try simp only [Act.put, List.setIfInBounds_toArray, List.set_cons_zero, List.set_cons_succ]
      refine WS_take (i := 21) (v := ?va21) (by simp only [List.getElem?_toArray, List.getElem?_cons_succ, List.getElem?_cons_zero]; rfl) (by decide) (by kernel_rfl) (by kernel_rfl) (by intro _ _ _ h; exact h) (Or.inl ⟨by rfl, ?hya21⟩) hS0 ?resta21
      case hya21 =>
        intro wx hx
        obtain ⟨s1, s2, s3, s4⟩ := hx
        go_simp
        try with_reducible rfl
      try simp only [Act.put, List.setIfInBounds_toArray, List.set_cons_zero, List.set_cons_succ]
      refine WS_done (by kernel_rfl) ?_
      simp only [List.drop_succ_cons, List.drop_zero]
      clear hS0
      go_wp2_with fail
      refine (HWD.out (n2 + 1)).mono ?_
      rintro e w3 ⟨rfl, n3, rfl⟩
      go_wp2_with fail
      go_roundw
      case rel => exact ⟨j + 1, n2 + 1 + n3, by omega, by go_num, by first | rfl | exact World.drewN_drewN _ _ _⟩
      case measure => simp [intOf]; omega
    · obtain rfl : j = l.length := by omega
      have hjb : ¬ (l.length : Int) < (l.length : Int) := by omega
      go_wp2_with fail
      go_ret
      exact ⟨rfl, _, rfl⟩
end Go.Proofs.YtjmmfihmamcopaaGreatDoor
