/- The walk of stetlaw12.LinesLong, and the plain law that it wants. -/
import Derived.Test.YtjebndjmckefbaaRows
import Derived.Test.YtjebndjmckefbaaKit
import Derived.Test.YtjebndjmckefbaaLnFixed
namespace Go.Proofs.Ytjebndjmckefbaa
namespace Ln
theorem ahead_moved (z : Int) : ∀ (ps : List Int) (i : Nat) (h : i < ps.length), aheadF ((ps.set i (ps[i] + 1)).set (i + 1) z) ps = true := by
  intro ps
  induction ps with
  | nil => intro i h; simp at h
  | cons p ps ih =>
    intro i h
    cases i with
    | zero =>
      simp only [List.set_cons_zero, List.set_cons_succ, aheadF, List.getElem_cons_zero]
      rw [if_neg (by omega)]
      simp; omega
    | succ i =>
      simp only [List.set_cons_succ, aheadF, List.getElem_cons_succ]
      rw [if_pos trivial]
      exact ih i (by simpa using h)
theorem moved_more (width : Nat) (W : List Nat) (i : Nat) (z : Int) (h : i < (linesF width W).length) (c : Nat) (hc : costF width W (((linesF width W).set i ((linesF width W)[i] + 1)).set (i + 1) z) = some c) : (best width W).1 < c := by
  have h1 := costF_ge width _ W c hc
  rcases Nat.lt_or_ge (best width W).1 c with h2 | h2
  · exact h2
  · exfalso
    have h3 : c = (best width W).1 := by omega
    rw [h3] at hc
    have h4 := costF_lex width _ W hc
    rw [ahead_moved z _ i h] at h4
    cases h4
end Ln
open Go.RowKit

set_option maxRecDepth 100000 in
set_option maxHeartbeats 4000000 in
theorem long_any (bs : List Int) (b : Int) (v : Value) (w : World) (hr : Row (Value.int .u8) w w.heap.size v bs) (hbs : ∀ x ∈ bs, 0 ≤ x ∧ x ≤ 255) (hb : 0 ≤ b ∧ b ≤ 65535) :
    Calls Try.prog 7 #[v, .int .u16 b] w fun e w' => e = .returned (.bool true) ∧ Below w.heap.size w w' := by
  obtain ⟨i0, hi0, hz0, hz1, hz2⟩ := info_parts intInfo
  obtain ⟨A, c, rfl, l1, m1, hA⟩ := hr.shape
  have hb1 := hb.1
  have hb2 := hb.2
  obtain ⟨M, hM⟩ : ∃ M : Nat, (M : Int) = 1 + b % 300 := ⟨(1 + b % 300).toNat, by omega⟩
  have hM1 : 1 ≤ M := by omega
  have hM2 : M ≤ 300 := by omega
  have HM := Lib.hid hM
  have HMM : Hid ((min (max (M : Int) 1) 1000).toNat = M) := by show _ = _; omega
  have HA := Lib.hid hA
  have HBS := Lib.hid hbs
  clear hb hM hA hbs hr
  go_enter Try.func7, Try.ntmps7
  go_upto_region 1 with fail
  go_cut [5, 6] (fun x y wx => wx.ownsRow w.heap.size 3 1 x 0 [] ∧ y = .int .i64 M ∧ Below w.heap.size w wx)
  case first =>
    go_wp2
    all_goals go_meet
    all_goals exact ⟨World.ownsRow_made _ #[] 0 (Nat.le_refl _) (by decide) rfl, by rw [HM.out], (Below.refl _ _).alloc (Nat.le_refl _) _⟩
  case rest =>
    obtain ⟨hown0, rfl, hbel0⟩ := hcut
    go_upto_block 0 with fail
    go_cut [5] (fun x wx => ∃ ws : List Int, ws.length ≤ 400 ∧ Ints wx wx.heap.size x ws ∧ Below w.heap.size w wx)
    case first =>
      go_wp2
      go_loopw [5, 7] (fun o i wr => ∃ k : Nat, k ≤ bs.length ∧ k ≤ 400 ∧ i = .int .i64 k ∧ wr.ownsRow w.heap.size 3 1 o k (((bs.take k).map (· % 60)).map (.int .i64)) ∧ Below w.heap.size w wr) (fun _ i _ => bs.length - (intOf i).toNat)
      case atStart => exact ⟨0, Nat.zero_le _, Nat.zero_le _, rfl, hown0, hbel0⟩
      case round =>
        obtain ⟨k, hk, hk4, rfl, hown, hbel⟩ := hrel
        by_cases hlt : k < bs.length ∧ k < 400
        · have hlt1 := hlt.1
          have hlt2 := hlt.2
          clear hlt
          obtain ⟨b1, off, rfl, hbb, hc⟩ := HA.out (by rintro rfl; simp at hlt1)
          have hcell := (hbel.cell (p := ⟨b1, off + k, none⟩) hbb).trans (hc k hlt1)
          have hx := HBS.out bs[k] (List.getElem_mem hlt1)
          have hx1 := hx.1
          have hx2 := hx.2
          have HS : Hid (((bs.take (k + 1)).map (· % 60)).map (Value.int .i64) = ((bs.take k).map (· % 60)).map (Value.int .i64) ++ [.int .i64 (bs[k] % 60)]) := by
            show _ = _
            rw [List.take_succ_eq_append_getElem hlt1, List.map_append, List.map_append]; rfl
          clear hc hx
          generalize bs[k] = z at *
          go_wp2_with (at_builtin; refine wpList_app1 rfl (.tmp 31) (.tmp 38) 22 rfl w.heap.size 3 i0 (.int .i64 0) 8 Try.underlying22 hi0 hz0 hz1 hz2 rfl _ _ _ (.int .i64 (z % 60)) rfl rfl rfl hown hbel.size (by simp only [maxLen]; omega) (by omega) ?_; intro v' w1 hown' hbel' _)
          go_roundw
          case rel => exact ⟨k + 1, by omega, by omega, by go_num, by rw [HS.out]; exact hown', hbel.trans hbel'⟩
          case measure => simp [intOf]; omega
        · have hr := Row.own hown
          have hwl : ((bs.take k).map (· % 60)).length ≤ 400 := by simp; omega
          clear hown
          generalize (bs.take k).map (· % 60) = ws at *
          by_cases hstop : k < bs.length
          all_goals
            go_wp2
            go_meet
            exact ⟨ws, hwl, hr, hbel⟩
    case rest =>
      obtain ⟨ws, hwl, hr, hbel⟩ := hcut
      obtain ⟨ps, hps⟩ : ∃ ps, Ln.linesF M (ws.map Ln.clip) = ps := ⟨_, rfl⟩
      obtain ⟨cc, hcc⟩ : ∃ cc, (Ln.best M (ws.map Ln.clip)).1 = cc := ⟨_, rfl⟩
      have hcost := Ln.costF_lines M _ (ws.map Ln.clip) (Nat.le_refl _)
      have hll := Ln.lines_len M _ (ws.map Ln.clip) (Nat.le_refl _)
      have hlp := Ln.lines_pos M _ (ws.map Ln.clip) (Nat.le_refl _)
      have hnil := Ln.lines_nil M (ws.map Ln.clip)
      have hcb := Ln.best_le M (by omega) _ (ws.map Ln.clip) (Nat.le_refl _)
      have hmv := Ln.moved_more M (ws.map Ln.clip)
      rw [hps, hcc] at hcost
      rw [hcc] at hcb
      simp only [hps, hcc] at hmv hlp hnil
      rw [hps] at hll
      rw [List.length_map] at hll hcb
      simp only [List.length_map] at hlp
      have HP : Hid (Ln.linesF (min (max (M : Int) 1) 1000).toNat (ws.map Ln.clip) = ps) := by show _ = _; rw [HMM.out]; exact hps
      have HC : Hid (Ln.costF (min (max (M : Int) 1) 1000).toNat (ws.map Ln.clip) ps = some cc) := by show _ = _; rw [HMM.out]; exact hcost
      have HMV : Hid (∀ (i : Nat) (z : Int) (h : i < ps.length) (c : Nat), Ln.costF (min (max (M : Int) 1) 1000).toNat (ws.map Ln.clip) ((ps.set i (ps[i] + 1)).set (i + 1) z) = some c → cc < c) := by
        show ∀ _, _
        rw [HMM.out]; exact hmv
      have HLP := Lib.hid hlp
      have hnil2 : ps = [] ↔ ws = [] := by rw [hnil]; simp
      have hws : ws.length ≤ 1000 := by omega
      clear hps hcc hcost hmv hlp hnil
      obtain ⟨Aw, cw, rfl, lw, mw, hAw⟩ := hr.shape
      clear hAw
      by_cases h : ws = []
      · have e0 := hnil2.2 h
        subst e0 h
        clear hnil2
        go_wp2_with fail
        refine (Break_ints [] M _ _ _ [] HP.out hr (Nat.le_refl _) hws).mono ?_
        rintro e w1 ⟨ra, rfl, ha, b1⟩
        replace hr := hr.step b1
        have c1 := hbel.trans (b1.mono hbel.size)
        go_wp2_with fail
        refine (Cost_ok [] [] M _ _ _ _ _ cc HC.out hr ha hws (by omega)).mono ?_
        rintro e w2 ⟨rfl, b2⟩
        replace ha := ha.step b2
        replace hr := hr.step b2
        have c2 := c1.trans (b2.mono c1.size)
        obtain ⟨Aa, ca, rfl, la, ma, hAa⟩ := ha.shape
        have HAa := Lib.hid hAa
        clear hAa b1 b2 c1 hbel
        go_wp2
        go_loopw [12] (fun i wr => i = .int .i64 0 ∧ wr = w2) (fun _ _ => 0)
        case atStart => exact ⟨rfl, rfl⟩
        case round =>
          obtain ⟨rfl, rfl⟩ := hrel
          go_wp2_with fail
          refine (fixed_any _).mono ?_
          rintro e w6 ⟨rfl, b6⟩
          go_wp2_with fail
          go_ret
          exact ⟨rfl, c2.trans (b6.mono c2.size)⟩
      · have h' : ¬ ps = [] := fun e => h (hnil2.1 e)
        have h1 : 0 < ws.length := List.length_pos_iff.2 h
        have h2 : 0 < ps.length := List.length_pos_iff.2 h'
        have e1 : ((ps.length : Int) == 0) = false := by simp; omega
        have e2 : ((ws.length : Int) == 0) = false := by simp; omega
        clear hnil2 h h'
        go_wp2_with fail
        refine (Break_ints ws M _ _ _ ps HP.out hr (Nat.le_refl _) hws).mono ?_
        rintro e w1 ⟨ra, rfl, ha, b1⟩
        replace hr := hr.step b1
        have c1 := hbel.trans (b1.mono hbel.size)
        go_wp2_with fail
        refine (Cost_ok ws ps M _ _ _ _ _ cc HC.out hr ha hws (by omega)).mono ?_
        rintro e w2 ⟨rfl, b2⟩
        replace ha := ha.step b2
        replace hr := hr.step b2
        have c2 := c1.trans (b2.mono c1.size)
        obtain ⟨Aa, ca, rfl, la, ma, hAa⟩ := ha.shape
        have HAa := Lib.hid hAa
        clear hAa b1 b2 c1 hbel
        go_wp2
        go_loopw [12] (fun i wr => ∃ j : Nat, j ≤ ps.length ∧ i = .int .i64 j ∧ Below w2.heap.size w2 wr) (fun i _ => ps.length - (intOf i).toNat)
        case atStart => exact ⟨0, Nat.zero_le _, rfl, Below.refl _ _⟩
        case round =>
          obtain ⟨j, hj, rfl, hbr⟩ := hrel
          have cr := c2.trans (hbr.mono c2.size)
          by_cases hgo : j + 1 < ps.length ∧ j < 20
          · obtain ⟨hgo1, hgo2⟩ := hgo
            obtain ⟨ba, oa, rfl, hba, hca⟩ := HAa.out (by rintro rfl; simp at hgo1)
            have hcells : ∀ t u, (ps.map (Value.int .i64))[t]? = some u → (wr.alloc (.cells #[] 3)).cell? ((⟨ba, oa, none⟩ : Addr).add t) = some u := by
              intro t u hu
              obtain ⟨ht, he⟩ := List.getElem?_eq_some_iff.1 hu
              simp only [List.length_map] at ht
              rw [Addr.add_lit, World.cell?_alloc_lt _ _ _ (Nat.lt_of_lt_of_le hba hbr.size), (hbr.cell (p := ⟨ba, oa + t, none⟩) hba), hca t ht, ← he]
              simp
            have HCELLS := Lib.hid hcells
            clear hcells hca
            have hp0 := HLP.out ps[j] (List.getElem_mem _)
            have hp1 := HLP.out ps[j + 1] (List.getElem_mem hgo1)
            have hp01 := hp0.1
            have hp02 := hp0.2
            have hp11 := hp1.1
            have hp12 := hp1.2
            have HMVj : Hid (∀ (z : Int) (c : Nat), Ln.costF (min (max (M : Int) 1) 1000).toNat (ws.map Ln.clip) ((ps.set j (ps[j] + 1)).set (j + 1) z) = some c → cc < c) := fun z c h => HMV.out j z (by omega) c h
            clear hp0 hp1
            go_wp2_with (at_builtin; refine wpList_append_own _ rfl (.tmp 79) (.tmp 80) 22 rfl w2.heap.size 3 i0 (.int .i64 0) 1 8 Try.underlying22 hi0 hz0 hz1 hz2 rfl (by decide) _ 0 [] rfl (World.ownsRow_made _ #[] 0 hbr.size (by decide) rfl) ⟨ba, oa, none⟩ ps.length ca (ps.map (.int .i64)) rfl (by simp) HCELLS.out (ints_oneCell _ _) (by simp only [maxLen]; omega) (by omega) (by have := hbr.size; simp; omega) ?_; intro v' w3 hown3 hg3 _; simp only [Nat.zero_add, List.nil_append] at hown3; obtain ⟨g3, c3, rfl, hgb, hgl⟩ := hown3.form (by omega); have hk0 : w3.cell? ⟨g3, j, none⟩ = some (.int .i64 ps[j]) := (hown3.cellAt j (by omega)).trans (by simp [show j < ps.length by omega]); have hk1 : w3.cell? ⟨g3, j + 1, none⟩ = some (.int .i64 ps[j + 1]) := (hown3.cellAt (j + 1) (by omega)).trans (by simp [hgo1]); have hf0 := hown3.frozenAt j; have hf1 := hown3.frozenAt (j + 1); have hg4 : Below w2.heap.size w2 w3 := (hbr.alloc hbr.size _).grown hg3 (by have := hbr.size; simp; omega) (fun k hk => by first | (cases hk; exact hbr.size) | (have e := Option.some.inj hk; subst e; exact hbr.size)); have HO3 := Lib.hid hown3; clear hown3 hg3; generalize ps[j] = p0 at *; generalize ps[j + 1] = p1 at *)
            have hown4 := ((HO3.out.stored j (.int .i64 (p0 + 1))).1.stored (j + 1) (.int .i64 (p1 - 1))).1
            rw [← List.map_set, ← List.map_set] at hown4
            have hrow4 := Row.own hown4
            have hbel4 : Below w2.heap.size w2 ((w3.setCell ⟨g3, j, none⟩ (.int .i64 (p0 + 1))).setCell ⟨g3, j + 1, none⟩ (.int .i64 (p1 - 1))) := (hg4.setCell hgb _).setCell hgb _
            have HJ := HMVj.out (p1 - 1)
            have hkl : ((ps.set j (p0 + 1)).set (j + 1) (p1 - 1)).length ≤ 100000 := by simp; omega
            have HJJ := Lib.hid HJ
            clear hown4 HJ hk0 hk1 hf0 hf1 hg4 HO3 hgl HMVj
            generalize (w3.setCell ⟨g3, j, none⟩ (.int .i64 (p0 + 1))).setCell ⟨g3, j + 1, none⟩ (.int .i64 (p1 - 1)) = w4 at *
            generalize (ps.set j (p0 + 1)).set (j + 1) (p1 - 1) = ks at *
            have hr4 := hr.below hbel4 (Nat.le_refl _)
            cases hcr : Ln.costF (min (max (M : Int) 1) 1000).toNat (ws.map Ln.clip) ks with
            | none =>
              refine (Cost_no ws ks M _ _ _ _ _ hcr hr4 hrow4 hws hkl).mono ?_
              rintro e w5 ⟨rfl, b5⟩
              have hbel5 := hbel4.trans (b5.mono hbel4.size)
              clear hcr
              go_wp2_with fail
              go_roundw
              case rel => exact ⟨j + 1, by omega, by go_num, hbel5⟩
              case measure => simp [intOf]; omega
            | some c4 =>
              have hc4 := HJJ.out c4 hcr
              refine (Cost_ok ws ks M _ _ _ _ _ c4 hcr hr4 hrow4 hws hkl).mono ?_
              rintro e w5 ⟨rfl, b5⟩
              have hbel5 := hbel4.trans (b5.mono hbel4.size)
              clear hcr
              go_wp2_with fail
              go_roundw
              case rel => exact ⟨j + 1, by omega, by go_num, hbel5⟩
              case measure => simp [intOf]; omega
          · by_cases hg1 : j + 1 < ps.length
            all_goals
              go_wp2_with fail
              refine (fixed_any _).mono ?_
              rintro e w6 ⟨rfl, b6⟩
              have c6 := cr.trans (b6.mono cr.size)
              go_wp2_with fail
              go_ret
              exact ⟨rfl, c6⟩
end Go.Proofs.Ytjebndjmckefbaa
