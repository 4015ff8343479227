/- StoreDoes. -/
import Derived.Test.YtkoegbjnhoecoaaGreatDoorStL
namespace Go.Proofs.YtkoegbjnhoecoaaGreatDoor
open Go.RowKit Tx

set_option maxRecDepth 100000 in
set_option maxHeartbeats 16000000 in
theorem does_law (a0 : Int) (v1 : Value) (l : List Stp) (w : World) (ha0 : (Lit.int .u8 a0).wf = true) (hr1 : RowS w w.heap.size v1 l) (hg0 : Gl w) :
    Calls Tryz.prog 7 #[.int .u8 a0, v1] w fun e w' => e = .returned (.bool true) ∧ Below w.heap.size w w' := by
  have hHG := Lib.hid (gl_from hg0)
  obtain ⟨rs, R0, hrl, hin⟩ := hr1
  obtain ⟨A0, c0, rfl, z1, z2, z3⟩ := R0.shape
  rw [hrl] at z1
  have HC := Lib.hid z3
  have HIN := Lib.hid hin
  have HRL := Lib.hid hrl
  have hvlen : (Value.slice A0 rs.length c0) = Value.slice A0 l.length c0 := by rw [hrl]
  rw [hvlen]
  have ha1 : 0 ≤ a0 ∧ a0 ≤ 255 := bounds_u8 ha0
  obtain ⟨a, rfl⟩ : ∃ a : Nat, a0 = (a : Int) := ⟨a0.toNat, by omega⟩
  clear R0 z3 hin hg0 hvlen hrl
  go_enter Tryz.func7, Tryz.ntmps7
  go_wp2_with fail
  obtain ⟨n, hn⟩ : ∃ n : Nat, 4 + (a : Int) % 16 = (n : Int) := ⟨4 + a % 16, by omega⟩
  have hn4 : 4 ≤ n ∧ n ≤ 19 := by omega
  rw [hn]
  refine (on_calm (n := n) (by omega) (Nat.le_refl _) (Below.refl _ _) hHG.out).mono ?_
  rintro e w1 ⟨sb, bd, R, rfl, S1, b1, _⟩
  have HS1 := Lib.hid (S1.more ((Below.refl _ _).alloc (Nat.le_refl _) (.cells #[] 29)) [w1.heap.size] (fun k hk => by simp only [List.mem_singleton] at hk; subst hk; simp))
  have HB1 := Lib.hid b1
  have hsb1 : sb < w1.heap.size := S1.mem.2
  have HK1 : Hid (RowK w.heap.size ([w1.heap.size] ++ R) sb (w1.alloc (.cells #[] 29)) (.slice (some ⟨w1.heap.size, 0, none⟩) 0 0) []) := Lib.hid ⟨⟨0, by simp, by decide, .inl ⟨rfl, _, rfl⟩⟩, .inr ⟨_, _, _, rfl⟩, fun hne => absurd rfl hne⟩
  have HN := Lib.hid hn
  clear S1 b1 hn
  go_upto_block 0 with fail
  go_cut [5, 7] (fun sv nv wx => ∃ (k sb : Nat) (R : List Nat) (La : List Wr.F), Calm w.heap.size w wx bd n sb k (10 * k) La R)
  case first =>
    go_wp2_with fail
    go_loopw [5, 7, 8] (fun sv nv i wr => ∃ (k sb : Nat) (R : List Nat) (La : List Wr.F), k ≤ 14 ∧ k ≤ l.length ∧ i = .int .i64 k ∧ sv = .pointer (some ⟨sb, 0, none⟩) ∧ Calm w.heap.size w wr bd n sb k (10 * k) La R ∧ RowK w.heap.size R sb wr nv La ∧ Wr.right La = true) (fun _ _ i _ => 14 - (RowKit.intOf i).toNat)
    case atStart => exact ⟨0, sb, _, [], by omega, Nat.zero_le _, rfl, rfl, HS1.out, HK1.out, by decide⟩
    case round =>
      clear hsb1 HS1 HK1
      obtain ⟨k, sb, R, La, hk, hkl, rfl, rfl, hcal, hrow, hright⟩ := hrel
      have HCAL := Lib.hid hcal
      have HROW := Lib.hid hrow
      have HRT := Lib.hid hright
      obtain ⟨lA, lc, rfl, -⟩ := hrow.1.shape
      clear hcal hrow hright
      by_cases hlt : k < l.length
      · have hi : (k : Int) < (l.length : Int) := by omega
        have hi0 : (0 : Int) ≤ (k : Int) := by omega
        by_cases h14 : k < 14
        · have hi14 : (k : Int) < 14 := by omega
          obtain ⟨b, off, rfl, hbl, hc⟩ := HC.out (by rintro rfl; have := HRL.out; simp at this; omega)
          have hkr : k < rs.length := by rw [HRL.out]; exact hlt
          have e0 := hc k hkr 0 _ rfl
          have e1 := hc k hkr 1 _ rfl
          have e2 := hc k hkr 2 _ rfl
          have e3 := hc k hkr 3 _ rfl
          have e4 := hc k hkr 4 _ rfl
          simp only [Nat.add_zero] at e0
          have hbelw := HCAL.out.disk.bel.2.1
          have HTRY := Lib.hid (try_any HCAL.out hn4 (by omega) (by omega) _ HROW.out HRT.out rs[k] l[k] (HIN.out k hkr hlt) rfl hHG.out)
          have c0 := (hbelw.cell (p := ⟨b, off + k * 5, none⟩) hbl).trans e0
          have c1 := (hbelw.cell (p := ⟨b, off + k * 5 + 1, none⟩) hbl).trans e1
          have c2 := (hbelw.cell (p := ⟨b, off + k * 5 + 2, none⟩) hbl).trans e2
          have c3 := (hbelw.cell (p := ⟨b, off + k * 5 + 3, none⟩) hbl).trans e3
          have c4 := (hbelw.cell (p := ⟨b, off + k * 5 + 4, none⟩) hbl).trans e4
          generalize rs[k] = rk at *
          generalize l[k] = lk at *
          obtain ⟨x0, x1, x2, x3, x4⟩ := rk
          simp only at c0 c1 c2 c3 c4 HTRY
          clear hc e0 e1 e2 e3 e4 hbelw
          go_wp2_with fail
          refine HTRY.out.mono ?_
          rintro e w2 ⟨st, nv, Lx, R3, rfl, T3, K3, hr3, _⟩
          obtain ⟨nA, nc, rfl, -⟩ := K3.1.shape
          have HC3 := Lib.hid T3
          have HK3 := Lib.hid K3
          have HR3 := Lib.hid hr3
          clear T3 K3 hr3 c0 c1 c2 c3 c4
          go_wp2_with fail
          go_roundw
          case rel => exact ⟨k + 1, st, R3, Lx, by omega, by omega, by go_num, rfl, by rw [Nat.mul_add]; exact HC3.out, HK3.out, HR3.out⟩
          case measure => simp [RowKit.intOf]; omega
        · obtain rfl : k = 14 := by omega
          go_wp2_with fail
          go_meet
          exact ⟨14, sb, R, La, HCAL.out⟩
      · have hi : ¬ (k : Int) < (l.length : Int) := by omega
        go_wp2_with fail
        go_meet
        exact ⟨k, sb, R, La, HCAL.out⟩
  case rest =>
    obtain ⟨k, sb2, R2, La, hcal⟩ := hcut
    have HRM := Lib.hid (room_any (n : Int) wc)
    have HRR := Lib.hid (rroom_any (n : Int) wc)
    have HBW := Lib.hid hcal.disk.bel.2.1
    have hn := HN.out
    obtain ⟨z, hz⟩ : ∃ z, z = roomZ (n : Int) := ⟨_, rfl⟩
    rw [← hz] at HRM HRR
    clear hcal hz
    go_wp2_with fail
    refine HRM.out.mono ?_
    rintro e w2 ⟨rfl, rfl⟩
    go_wp2_with fail
    refine HRR.out.mono ?_
    rintro e w2 ⟨rfl, rfl⟩
    go_wp2_with fail
    refine (fixed_any wc (hHG.out _ HBW.out)).mono ?_
    rintro e w4 ⟨rfl, b4⟩
    go_wp2_with fail
    go_ret
    exact ⟨rfl, below_via HBW.out b4⟩
end Go.Proofs.YtkoegbjnhoecoaaGreatDoor
