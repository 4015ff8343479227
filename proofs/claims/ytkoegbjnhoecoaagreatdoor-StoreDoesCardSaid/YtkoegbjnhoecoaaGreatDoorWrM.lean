/- The reference's Drop, Put, Map. -/
import Derived.Test.YtkoegbjnhoecoaaGreatDoorH5
import Derived.Test.YtkoegbjnhoecoaaGreatDoorEqF
import Derived.Test.YtkoegbjnhoecoaaGreatDoorExt
namespace Go.Proofs.YtkoegbjnhoecoaaGreatDoor
open Go.RowKit Tx

theorem drop_step (l : List Wr.F) (n : Wr.Bs) (k : Nat) (h : k < l.length) : Wr.dropF (l.take (k + 1)) n = Wr.dropF (l.take k) n ++ if l[k].1 == n then [] else [l[k]] := by
  unfold Wr.dropF
  rw [List.take_succ_eq_append_getElem h, List.filter_append]
  congr 1
  cases hc : l[k].1 == n <;> simp [hc]
theorem dropF_le (l : List Wr.F) (n : Wr.Bs) : (Wr.dropF l n).length ≤ l.length := List.length_filter_le _ _
/-- A slice value that is not nil. -/
def Som (v : Value) (n : Nat) : Prop := ∃ g cap, v = .slice (some ⟨g, 0, none⟩) n cap
theorem OwnC.som {base : Nat} {w : World} {v : Value} {l : List Wr.F} (h : OwnC 29 2 ff base w v l) (hne : l ≠ []) : Som v l.length := by
  obtain ⟨g, cap, rfl, _⟩ := h.shape ff_length hne
  exact ⟨g, cap, rfl⟩

set_option maxRecDepth 100000 in
set_option maxHeartbeats 4000000 in
theorem drop_any (v : Value) (l : List Wr.F) (n : Bs) (w : World) (hr : RowC 2 ff w w.heap.size v l) (hl : l.length < 1000000) :
    Calls Tryz.prog 52 #[v, vs n] w fun e w' => ∃ o, e = .returned (.tuple #[o, .bool (decide ((Wr.dropF l n).length < l.length))]) ∧ OwnC 29 2 ff w.heap.size w' o (Wr.dropF l n) ∧ Som o (Wr.dropF l n).length ∧ Below w.heap.size w w' := by
  obtain ⟨A, cap, rfl, h1, h2, h3⟩ := hr.shape
  have HC := Lib.hid h3
  clear h3 hr
  have hmade := OwnC.made 29 2 ff w.heap.size w (Nat.le_refl _)
  go_enter Tryz.func52, Tryz.ntmps52
  go_wp2_with fail
  go_loopw [6, 7] (fun o i wr => ∃ k : Nat, k ≤ l.length ∧ i = .int .i64 k ∧ OwnC 29 2 ff w.heap.size wr o (Wr.dropF (l.take k) n) ∧ Som o (Wr.dropF (l.take k) n).length ∧ Below w.heap.size w wr) (fun _ i _ => l.length - (RowKit.intOf i).toNat)
  case atStart => exact ⟨0, Nat.zero_le _, rfl, hmade, ⟨_, _, rfl⟩, (Below.refl _ _).alloc (Nat.le_refl _) _⟩
  case round =>
    clear hmade
    obtain ⟨k, hk, rfl, ho, hsom, hbel⟩ := hrel
    have hle := hbel.size
    by_cases hlt : k < l.length
    · have hi : (k : Int) < (l.length : Int) := by omega
      have hi0 : (0 : Int) ≤ (k : Int) := by omega
      obtain ⟨b, off, rfl, hbl, hc⟩ := HC.out (by rintro rfl; simp at hlt)
      obtain ⟨c0, c1⟩ := ff_cells (fun i u hu => (hbel.cell (p := ⟨b, off + k * 2 + i, none⟩) hbl).trans (hc k hlt i u hu))
      have hst := drop_step l n k hlt
      have hol : (Wr.dropF (l.take k) n).length ≤ k := Nat.le_trans (dropF_le _ _) (by simp; omega)
      clear hc
      generalize l[k] = f at *
      obtain ⟨x, y⟩ := f
      simp only at c0 c1 hst
      have HO := Lib.hid ho
      clear ho
      by_cases hxn : x = n
      · subst hxn
        have HS : Hid (Wr.dropF (l.take (k + 1)) x = Wr.dropF (l.take k) x) := Lib.hid (by rw [hst]; simp)
        have HSM := Lib.hid hsom
        clear hst hsom
        go_wp2_with fail
        go_roundw
        case rel => exact ⟨k + 1, by omega, by go_num, by rw [HS.out]; exact HO.out, by rw [HS.out]; exact HSM.out, hbel⟩
        case measure => simp [RowKit.intOf]; omega
      · have HS : Hid (Wr.dropF (l.take (k + 1)) n = Wr.dropF (l.take k) n ++ [(x, y)]) := Lib.hid (by rw [hst]; simp [hxn])
        have e1 : ((bs x).toList == (bs n).toList) = false := by rw [toListB, toListB]; simpa using hxn
        have e2 : ((bs x).toList != (bs n).toList) = true := by rw [bne, e1]; rfl
        clear hst hsom hxn
        go_wp2_with (at_builtin; refine app_file rfl (.tmp 22) (.tmp 27) rfl w.heap.size _ (Wr.dropF (l.take k) n) (x, y) rfl wr.heap.size rfl rfl HO.out hle (by omega) ?_; intro v' w4 h8 h9 h10)
        go_roundw
        case rel => exact ⟨k + 1, by omega, by go_num, by rw [HS.out]; exact h8, by rw [HS.out]; exact h8.som (by simp), hbel.trans h9⟩
        case measure => simp [RowKit.intOf]; omega
    · obtain rfl : k = l.length := by omega
      rw [List.take_length] at ho hsom
      have HO := Lib.hid ho
      obtain ⟨g, c, rfl⟩ := hsom
      clear ho
      have HDD : Hid (decide (((Wr.dropF l n).length : Int) < (l.length : Int)) = decide ((Wr.dropF l n).length < l.length)) := Lib.hid (by
        rw [decide_eq_decide]; omega)
      go_wp2_with fail
      go_ret2
      exact ⟨.slice (some ⟨g, 0, none⟩) (Wr.dropF l n).length c, by rw [← HDD.out]; rfl, HO.out, ⟨g, c, rfl⟩, hbel⟩

theorem row_news {w : World} {B b off len cap : Nat} {D : List Wr.F} (h : RowC 2 ff w B (.slice (some ⟨b, off, none⟩) len cap) D) (k : Nat) (hk : k < D.length) :
    ∀ j u, ((D.drop k).flatMap ff)[j]? = some u → w.cell? ((⟨b, off + k * 2, none⟩ : Addr).add j) = some u := by
  intro j u hj
  obtain ⟨A, c, e, _, _, h3⟩ := h.shape
  injection e with e1 e2 e3
  obtain ⟨b', off', e4, _, hc⟩ := h3 (by rintro rfl; simp at hk)
  rw [← e1] at e4
  injection e4 with e4
  injection e4 with e5 e6
  subst e5 e6
  have hjl : j < (D.drop k).length * 2 := by
    have := (List.getElem?_eq_some_iff.1 hj).1
    rwa [flat_length ff_length] at this
  have h1 : j / 2 < (D.drop k).length := by omega
  have h2 := flat_at ff_length (D.drop k) (j / 2) (j % 2) h1 (by omega)
  rw [show j / 2 * 2 + j % 2 = j by omega, hj] at h2
  rw [List.getElem_drop] at h2
  have h4 := hc (k + j / 2) (by simp at h1; omega) (j % 2) u h2.symm
  rw [Addr.add_lit]
  rw [show off + k * 2 + j = off + (k + j / 2) * 2 + j % 2 by omega]
  exact h4

def putE (l : List Wr.F) (f : Wr.F) : Nat := match Wr.putF l f with | .ok _ => 0 | .error e => e
def putL (l : List Wr.F) (f : Wr.F) : List Wr.F := match Wr.putF l f with | .ok m => m | .error _ => []
theorem tw_step (D : List Wr.F) (n : Wr.Bs) (k : Nat) (hk : k < D.length) (h1 : ∀ j, ∀ h : j < D.length, j < k → Wr.less D[j].1 n = true) (h2 : Wr.less D[k].1 n = false) :
    D.take k = D.takeWhile (fun g => Wr.less g.1 n) ∧ D.drop k = D.dropWhile (fun g => Wr.less g.1 n) := by
  induction D generalizing k with
  | nil => simp at hk
  | cons a D ih =>
    cases k with
    | zero => simp at h2; simp [List.takeWhile_cons, List.dropWhile_cons, h2]
    | succ k =>
      have ha := h1 0 (by simp) (by omega)
      simp at ha
      have := ih k (by simpa using hk) (fun j h hj => by have := h1 (j + 1) (by simp; omega) (by omega); simpa using this) (by simpa using h2)
      simp [List.takeWhile_cons, List.dropWhile_cons, ha, this]
theorem tw_end (D : List Wr.F) (n : Wr.Bs) (h1 : ∀ j, ∀ h : j < D.length, Wr.less D[j].1 n = true) :
    D.take D.length = D.takeWhile (fun g => Wr.less g.1 n) ∧ D.drop D.length = D.dropWhile (fun g => Wr.less g.1 n) := by
  induction D with
  | nil => simp
  | cons a D ih =>
    have ha := h1 0 (by simp)
    simp at ha
    have := ih (fun j h => by have := h1 (j + 1) (by simp; omega); simpa using this)
    simp at this
    simp [List.takeWhile_cons, List.dropWhile_cons, ha]
    exact ⟨this.1, this.2⟩

set_option maxRecDepth 100000 in
set_option maxHeartbeats 4000000 in
theorem putF_any (v : Value) (l : List Wr.F) (n t : Bs) (w : World) (hr : RowC 2 ff w w.heap.size v l) (hl : l.length < 100000) (hn : n.length ≤ maxLen) (ht : t.length ≤ maxLen) :
    Calls Tryz.prog 36 #[v, .agg #[vs n, vs t]] w fun e w' => ∃ o, e = .returned (.tuple #[o, .int .i64 (putE l (n, t))]) ∧ RowC 2 ff w' w'.heap.size o (putL l (n, t)) ∧ (∀ k, o.ownBlock = some k → w.heap.size ≤ k) ∧ Below w.heap.size w w' := by
  obtain ⟨A, cap, rfl, c1, c2, c3⟩ := hr.shape
  have hm1 := hn
  have hzt := bs_size t
  simp only [maxLen] at hn ht
  by_cases hnm : Wr.nameOk n = true
  case neg =>
    have hnm : Wr.nameOk n = false := by simpa using hnm
    have HE : Hid (putE l (n, t) = 2 ∧ putL l (n, t) = []) := Lib.hid (by unfold putE putL Wr.putF; rw [if_pos hnm]; exact ⟨rfl, rfl⟩)
    have HN := Lib.hid (fun w => rName_b n w hm1 hnm)
    clear hr c3 hnm
    go_enter Tryz.func36, Tryz.ntmps36
    go_wp2_with fail
    refine (HN.out _).mono ?_
    rintro e w1 ⟨rfl, rfl⟩
    go_wp2_with fail
    go_ret2
    exact ⟨.slice none 0 0, by rw [HE.out.1]; rfl, by rw [HE.out.2]; exact row_none _ _, (fun k h => by cases h), (Below.refl _ _).alloc (Nat.le_refl _) _⟩
  case pos =>
    have HN := Lib.hid (fun w => rName_b n w hm1 hnm)
    have hb1 : Below w.heap.size w (w.alloc (.cells #[.string (bs n), .string (bs t)] 29)) := (Below.refl _ _).alloc (Nat.le_refl _) _
    obtain ⟨d0, d1⟩ := box_cells (w := w) (x := n) (y := t)
    have HRL := Lib.hid (hr.step hb1)
    have HNM := Lib.hid hnm
    clear hr c3 hnm
    obtain ⟨g0, hg0⟩ : ∃ g, g = w.heap.size := ⟨_, rfl⟩
    go_enter Tryz.func36, Tryz.ntmps36
    rw [← hg0] at d0 d1
    have HG0 := Lib.hid hg0
    go_wp2_with fail
    rw [← hg0]
    clear hg0
    generalize hwb : w.alloc (.cells #[.string (bs n), .string (bs t)] 29) = wb at *
    clear hwb
    refine (HN.out _).mono ?_
    rintro e w1 ⟨rfl, rfl⟩
    go_wp2_with fail
    refine (drop_any _ l n wb HRL.out (by omega)).mono ?_
    rintro e w2 ⟨o, rfl, ho, ⟨g, c, rfl⟩, hb2⟩
    have hle2 := hb2.size
    have hg0l : g0 < wb.heap.size := World.block_lt_of_cell? wb ⟨g0, 0, none⟩ (by rw [d0])
    have e0 := (hb2.cell (p := ⟨g0, 0, none⟩) hg0l).trans d0
    have e1 := (hb2.cell (p := ⟨g0, 1, none⟩) hg0l).trans d1
    have hgl2 : g0 < w2.heap.size := Nat.lt_of_lt_of_le hg0l hle2
    have HB2 := Lib.hid (below_via hb1 hb2)
    have hdl := dropF_le l n
    have HPF : Hid (Wr.putF l (n, t) = if 4000 < t.length ∨ (¬ (Wr.dropF l n).length < l.length ∧ 32 ≤ l.length) then .error 3 else .ok (Wr.ins (Wr.dropF l n) (n, t))) := Lib.hid (by
      unfold Wr.putF
      rw [if_neg (by simpa using HNM.out)])
    have HD := Lib.hid (ho.rowC ff_length)
    clear ho hb1 hb2 d0 d1 HN HRL HNM
    generalize Wr.dropF l n = D at *
    obtain ⟨BC, hBC⟩ : ∃ BC : Bool, BC = decide (4000 < t.length ∨ (¬ D.length < l.length ∧ 32 ≤ l.length)) := ⟨_, rfl⟩
    have HBC := Lib.hid hBC
    clear hBC
    go_upto_region 4 with fail
    go_cut [34] (fun b wx => b = .bool BC ∧ wx = w2)
    case first =>
      by_cases h1 : 4000 < t.length
      · have HT : Hid (BC = true) := Lib.hid (by rw [HBC.out]; exact decide_eq_true (.inl h1))
        have q1 : decide ((4000 : Int) < ((bs t).size : Int)) = true := decide_eq_true (by omega)
        have q2 : decide ((4000 : Int) < (t.length : Int)) = true := decide_eq_true (by omega)
        have q3 : decide (4000 < t.length) = true := decide_eq_true h1
        go_wp2_with fail
        go_meet
        exact ⟨by rw [HT.out], rfl⟩
      · have q1 : decide ((4000 : Int) < ((bs t).size : Int)) = false := decide_eq_false (by omega)
        have q2 : decide ((4000 : Int) < (t.length : Int)) = false := decide_eq_false (by omega)
        have q3 : decide (4000 < t.length) = false := decide_eq_false h1
        by_cases h2 : D.length < l.length
        · have HT : Hid (BC = false) := Lib.hid (by rw [HBC.out]; exact decide_eq_false (by omega))
          have r1 : decide (D.length < l.length) = true := decide_eq_true h2
          go_wp2_with fail
          go_meet
          exact ⟨by rw [HT.out], rfl⟩
        · have r1 : decide (D.length < l.length) = false := decide_eq_false h2
          by_cases h3 : 32 ≤ l.length
          · have HT : Hid (BC = true) := Lib.hid (by rw [HBC.out]; exact decide_eq_true (by omega))
            have s1 : decide ((32 : Int) ≤ (l.length : Int)) = true := decide_eq_true (by omega)
            have s2 : decide (32 ≤ l.length) = true := decide_eq_true h3
            go_wp2_with fail
            go_meet
            exact ⟨by rw [HT.out], rfl⟩
          · have HT : Hid (BC = false) := Lib.hid (by rw [HBC.out]; exact decide_eq_false (by omega))
            have s1 : decide ((32 : Int) ≤ (l.length : Int)) = false := decide_eq_false (by omega)
            have s2 : decide (32 ≤ l.length) = false := decide_eq_false h3
            go_wp2_with fail
            go_meet
            exact ⟨by rw [HT.out], rfl⟩
    case rest =>
      obtain ⟨rfl, hcw⟩ := hcut
      have hcw' := hcw.symm
      subst hcw'
      clear hcw
      cases BC with
      | true =>
        have hbc := of_decide_eq_true HBC.out.symm
        have HE : Hid (putE l (n, t) = 3 ∧ putL l (n, t) = []) := Lib.hid (by unfold putE putL; rw [HPF.out, if_pos hbc]; exact ⟨rfl, rfl⟩)
        clear hbc
        go_wp2_with fail
        go_ret2
        exact ⟨.slice none 0 0, by rw [HE.out.1]; rfl, by rw [HE.out.2]; exact row_none _ _, (fun k h => by cases h), HB2.out⟩
      | false =>
        have hbc := of_decide_eq_false HBC.out.symm
        have HE : Hid (putE l (n, t) = 0 ∧ putL l (n, t) = Wr.ins D (n, t)) := Lib.hid (by unfold putE putL; rw [HPF.out, if_neg hbc]; exact ⟨rfl, rfl⟩)
        clear hbc HPF HBC
        obtain ⟨A', c', hsh, m1, m2, m3⟩ := HD.out.shape
        injection hsh with hsh1 hsh2 hsh3
        subst hsh1 hsh3
        have HDC := Lib.hid m3
        have hmade := OwnC.made 29 2 ff w2.heap.size w2 (Nat.le_refl _)
        have E0 := Lib.hid e0
        have E1 := Lib.hid e1
        clear m3 hsh2
        obtain ⟨B2, hB2⟩ : ∃ B, B = w2.heap.size := ⟨_, rfl⟩
        go_upto_block 0 with fail
        go_cut [8] (fun o wx => ∃ k, k ≤ D.length ∧ D.take k = D.takeWhile (fun g => Wr.less g.1 n) ∧ D.drop k = D.dropWhile (fun g => Wr.less g.1 n) ∧ OwnC 29 2 ff w2.heap.size wx o (D.take k) ∧ Som o k ∧ Below w2.heap.size w2 wx)
        case first =>
          go_wp2_with fail
          go_loopw [8, 9] (fun o i wr => ∃ k : Nat, k ≤ D.length ∧ i = .int .i64 k ∧ (∀ j, ∀ h : j < D.length, j < k → Wr.less D[j].1 n = true) ∧ OwnC 29 2 ff w2.heap.size wr o (D.take k) ∧ Som o k ∧ Below w2.heap.size w2 wr) (fun _ i _ => D.length - (RowKit.intOf i).toNat)
          case atStart => exact ⟨0, Nat.zero_le _, rfl, fun j h hj => absurd hj (Nat.not_lt_zero _), hmade, ⟨_, _, rfl⟩, (Below.refl _ _).alloc (Nat.le_refl _) _⟩
          case round =>
            clear hmade
            obtain ⟨k, hk, rfl, hls, ho, hsom, hbel⟩ := hrel
            have hle := hbel.size
            have f0 := (hbel.cell (p := ⟨g0, 0, none⟩) hgl2).trans E0.out
            have HLS := Lib.hid hls
            have HO := Lib.hid ho
            have HSM := Lib.hid hsom
            clear hls ho hsom
            by_cases hlt : k < D.length
            · obtain ⟨b, off, hbo, hbl, hc⟩ := HDC.out (by rintro rfl; simp at hlt)
              injection hbo with hbo
              injection hbo with hbo1 hbo2
              subst hbo1 hbo2
              obtain ⟨k0, k1⟩ := ff_cells (fun i u hu => (hbel.cell (p := ⟨g, 0 + k * 2 + i, none⟩) hbl).trans (hc k hlt i u hu))
              have hi : (k : Int) < (D.length : Int) := by omega
              have hi0 : (0 : Int) ≤ (k : Int) := by omega
              have HTS := Lib.hid (tw_step D n k hlt HLS.out)
              have HTK : Hid (D.take (k + 1) = D.take k ++ [D[k]]) := Lib.hid (List.take_succ_eq_append_getElem hlt)
              have HNX : Hid (Wr.less D[k].1 n = true → ∀ j, ∀ h : j < D.length, j < k + 1 → Wr.less D[j].1 n = true) := Lib.hid (fun hx j h hj => by
                by_cases hjk : j = k
                · subst hjk; exact hx
                · exact HLS.out j h (by omega))
              clear hc
              generalize D[k] = q at *
              obtain ⟨x, y⟩ := q
              simp only [Nat.zero_add] at k0 k1 HTS HTK HNX
              have hb0 : Op.bytesLess (bs x).toList (bs n).toList = Wr.less x n := by rw [toListB, toListB]
              have hkc : k < D.length := hlt
              by_cases hxl : Wr.less x n = true
              · rw [hxl] at hb0
                have HN2 := Lib.hid (HNX.out hxl)
                have hol : (D.take k).length < 1000000 := by simp; omega
                clear hxl
                go_wp2_with fail
                go_quiet (fail)
                go_wp2_with (at_builtin; refine app_file (w0 := World.drewN _ _) rfl (.tmp 52) (.tmp 57) rfl w2.heap.size _ (D.take k) (x, y) rfl wr.heap.size rfl rfl HO.out hle hol ?_; intro v' w4 h8 h9 h10)
                go_roundw
                case rel => exact ⟨k + 1, by omega, by go_num, HN2.out, by rw [HTK.out]; exact h8, by have := h8.som (by simp); rw [show (D.take k ++ [(x, y)]).length = k + 1 by simp; omega] at this; exact this, (below_drewN hbel _).trans h9⟩
                case measure => simp [RowKit.intOf]; omega
              · have hxl : Wr.less x n = false := by simpa using hxl
                rw [hxl] at hb0
                have HT2 := Lib.hid (HTS.out hxl)
                clear hxl
                go_wp2_with fail
                go_quiet (fail)
                go_wp2_with fail
                go_meet
                exact ⟨k, by omega, HT2.out.1, HT2.out.2, HO.out, HSM.out, below_drewN hbel _⟩
            · obtain rfl : k = D.length := by omega
              have HT2 := Lib.hid (tw_end D n (fun j h => HLS.out j h h))
              have hnl : ¬ (D.length : Int) < (D.length : Int) := by omega
              go_wp2_with fail
              go_quiet (fail)
              go_wp2_with fail
              go_meet
              exact ⟨D.length, Nat.le_refl _, HT2.out.1, HT2.out.2, HO.out, HSM.out, below_drewN hbel _⟩
        case rest =>
          obtain ⟨k, hk, htk, hdk, ho, ⟨g3, c3, rfl⟩, hbel⟩ := hcut
          clear hmade
          obtain ⟨w3, hw3⟩ : ∃ w', w' = wc := ⟨_, rfl⟩
          subst hw3
          have hle := hbel.size
          have f0 := (hbel.cell (p := ⟨g0, 0, none⟩) hgl2).trans E0.out
          have f1 := (hbel.cell (p := ⟨g0, 1, none⟩) hgl2).trans E1.out
          have HO := Lib.hid ho
          have HINS : Hid (Wr.ins D (n, t) = (D.take k ++ [(n, t)]) ++ D.drop k) := Lib.hid (by unfold Wr.ins; rw [← htk, ← hdk]; simp)
          have hol : (D.take k).length = k := by simp; omega
          have hkl : k < 1000000 := by omega
          have hbel3 := Lib.hid hbel
          clear ho htk hdk hbel
          go_upto_region 13 with (at_builtin; refine app_file rfl (.tmp 61) (.tmp 63) rfl w2.heap.size _ (D.take k) (n, t) rfl w3.heap.size rfl rfl HO.out hle (by omega) ?_; intro v4 w4 h8 h9 h10)
          have hb4 : Below w2.heap.size w2 w4 := hbel3.out.trans h9
          have hle4 := hb4.size
          have HR4 := Lib.hid (HD.out.below hb4 (Nat.le_refl _))
          have H8 := Lib.hid h8
          have hkI : (k : Int) ≤ (D.length : Int) := by omega
          have hkI0 : (0 : Int) ≤ (k : Int) := by omega
          have hDc : (D.length : Int) ≤ (c : Int) := by omega
          clear h8 h10
          obtain ⟨ad, had, hnews⟩ : ∃ ad, slAddr (some ⟨g, 0, none⟩) k c 2 = some ad ∧ ∀ j u, ((D.drop k).flatMap ff)[j]? = some u → w4.cell? (ad.add j) = some u := by
            by_cases hkD : k < D.length
            · refine ⟨⟨g, 0 + k * 2, none⟩, ?_, row_news HR4.out k hkD⟩
              simp only [slAddr]
              rw [if_neg (by omega)]
              simp [Addr.add_lit]
            · refine ⟨(slAddr (some ⟨g, 0, none⟩) k c 2).getD ⟨g, 0, none⟩, ?_, ?_⟩
              · simp only [slAddr]
                split <;> simp
              · intro j u hj
                rw [List.drop_of_length_le (by omega)] at hj
                simp at hj
          have HNW := Lib.hid hnews
          have HLEN : Hid (((D.drop k).flatMap ff).length = (D.length - k) * 2) := Lib.hid (by rw [flat_length ff_length]; simp)
          have HONE : Hid (∀ u ∈ (D.drop k).flatMap ff, u.oneCell' = true) := Lib.hid (fun u hu => by
            obtain ⟨f, _, hf⟩ := List.mem_flatMap.1 hu
            simp [ff] at hf
            rcases hf with rfl | rfl <;> rfl)
          obtain ⟨i0, hi0, hz0, hz1, hz2⟩ := info_parts fileInfo
          have h8l : (D.take k ++ [(n, t)]).length = k + 1 := by simp; omega
          have hsz : (k + 1) + (D.length - k) ≤ 200000 := by omega
          have HI := Lib.hid (And.intro hi0 (And.intro hz0 (And.intro hz1 hz2)))
          clear hnews hi0 hz0 hz1 hz2
          go_wp2_with (at_builtin; refine wpList_append_own _ rfl (.tmp 65) (.tmp 68) 30 rfl w2.heap.size 29 i0 _ 2 32 Tryz.underlying30 HI.out.1 HI.out.2.1 HI.out.2.2.1 HI.out.2.2.2 rfl (by decide) v4 (D.take k ++ [(n, t)]).length _ rfl H8.out ad (D.length - k) (c - k) ((D.drop k).flatMap ff) rfl HLEN.out HNW.out HONE.out (by simp only [maxLen]; omega) (by omega) hle4 ?_; intro v5 w5 h11 h12 h13)
          have h11' : OwnC 29 2 ff w2.heap.size w5 v5 ((D.take k ++ [(n, t)]) ++ D.drop k) := by
            have e : ((D.take k ++ [(n, t)]) ++ D.drop k).length = (D.take k ++ [(n, t)]).length + (D.length - k) := by simp; omega
            unfold OwnC
            rw [e, List.flatMap_append]
            exact h11
          have hb5 : Below w2.heap.size w2 w5 := hb4.trans (grown_below H8.out hle4 h12)
          go_wp2_with fail
          go_ret2
          exact ⟨v5, by rw [HE.out.1]; rfl, by rw [HE.out.2, HINS.out]; exact h11'.rowC ff_length, fun k h => Nat.le_trans HB2.out.size (h11'.lt k h).1, HB2.out.trans (hb5.mono HB2.out.size)⟩
end Go.Proofs.YtkoegbjnhoecoaaGreatDoor
