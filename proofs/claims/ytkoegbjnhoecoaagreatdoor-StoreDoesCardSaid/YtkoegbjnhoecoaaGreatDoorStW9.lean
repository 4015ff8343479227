/- Commit of what is no map, or too long; the reference's May; Same. -/
import Derived.Test.YtkoegbjnhoecoaaGreatDoorStW8
import Derived.Test.YtkoegbjnhoecoaaGreatDoorWrF2
import Derived.Test.YtkoegbjnhoecoaaGreatDoorWrFis
import Derived.Test.YtkoegbjnhoecoaaGreatDoorEqF
namespace Go.Proofs.YtkoegbjnhoecoaaGreatDoor
open Go.RowKit Tx

theorem door0 {Rr : Ending → World → Prop} {a : Act} {w' : World} {rc : Nat} {x : Int} (hd : a.defers = []) (h4 : a.tmps[4]? = some (.pointer (some ⟨rc, 0, none⟩))) (hc : w'.heap[rc]? = some (.cells #[.int .i64 x] 31 (0, 0)))
    (h : Rr (.returned (.int .i64 x)) w') : bodyPostD Tryz.prog Tryz.f12 Rr Exit.ret a w' := by
  obtain ⟨tmps, defers⟩ := a
  simp only at hd h4
  subst hd
  have e0 : w'.cell? ⟨rc, 0, none⟩ = some (.int .i64 x) := by rw [Lib.cell_of_heap hc]; rfl
  refine (⟨.int .i64 x, ?_, h⟩ : ∃ v, (results Tryz.f12 tmps).run Tryz.prog w' = .ok v w' ∧ Rr (.returned v) w')
  simp [results, Tryz.f12, go_sem, h4, e0]
set_option maxRecDepth 100000 in
set_option maxHeartbeats 4000000 in
theorem commit_form {w : World} {sb : Nat} (lv : Value) (L : List Wr.F) (hL : RowC 2 ff w w.heap.size lv L) (hok : ∀ f ∈ L, FOk f) (hr : Wr.right L = false) :
    Calls Tryz.prog 12 #[.pointer (some ⟨sb, 0, none⟩), lv] w fun e w' => e = .returned (.int .i64 5) ∧ Below w.heap.size w w' := by
  obtain ⟨rc, hrc⟩ : ∃ rc, rc = w.heap.size := ⟨_, rfl⟩
  obtain ⟨W, hW⟩ : ∃ W, W = w.alloc (.cells #[.int .i64 0] 31) := ⟨_, rfl⟩
  have hbW : Below w.heap.size w W := by rw [hW]; exact (Below.refl _ _).alloc (Nat.le_refl _) _
  have hrW : W.heap[rc]? = some (.cells #[.int .i64 0] 31 (0, 0)) := by rw [hW, hrc]; exact heap_alloc_new _ _
  have HRT := Lib.hid (fRight_any lv L W (hL.step hbW) hok)
  rw [hr] at HRT
  have HBW := Lib.hid hbW
  have HRC := Lib.hid hrc
  obtain ⟨lA, lc, rfl, _⟩ := hL.shape
  clear hbW hL hok hr
  go_enter_defers Tryz.func12, Tryz.ntmps12
  go_wp2_with fail
  rw [← hW, ← hrc]
  clear hW hrc
  refine HRT.out.mono ?_
  rintro e w1 ⟨rfl, b1⟩
  have HB1 := Lib.hid (below_via HBW.out b1)
  have hr1 := (b1.block rc (lt_of_block hrW)).trans hrW
  have c0 : w1.cell? ⟨rc, 0, none⟩ = some (.int .i64 0) := by rw [Lib.cell_of_heap hr1]; rfl
  have f0 : w1.frozen? ⟨rc, 0, none⟩ = false := Lib.frozen_of_heap hr1 0
  clear b1 hrW
  go_wp2_with fail
  exact door0 rfl rfl (wr_cells_set (j := 0) hr1 (.int .i64 5)) ⟨rfl, HB1.out.setCell (p := ⟨rc, 0, none⟩) (by show w.heap.size ≤ rc; rw [HRC.out]; exact Nat.le_refl _) _⟩
set_option maxRecDepth 100000 in
set_option maxHeartbeats 4000000 in
theorem commit_full {B : Nat} {w0 w : World} {bd : Nat} {d : Dk.St} {sb : Nat} {h0 h1 : Sq.Head} {l : List Wr.F} {R : List Nat} (n : Nat) (lv : Value) (L : List Wr.F) (hS : StIn B w0 w bd d sb h0 h1 l R) (hL : RowC 2 ff w w.heap.size lv L) (hn : d.n = (n : Int)) (h4 : 4 ≤ n ∧ n ≤ 4096)
    (hr : Wr.right L = true) (hU : 64 * Sq.half n < (Wr.files L).length) (hok : ∀ f ∈ L, FOk f) (hg : ∀ wx, Below B w0 wx → Gl wx) :
    Calls Tryz.prog 12 #[.pointer (some ⟨sb, 0, none⟩), lv] w fun e w' => e = .returned (.int .i64 7) ∧ Below w.heap.size w w' := by
  obtain ⟨hD, hmem, fv, k1, _, _, _⟩ := hS
  obtain ⟨rc, hrc⟩ : ∃ rc, rc = w.heap.size := ⟨_, rfl⟩
  obtain ⟨W, hW⟩ : ∃ W, W = w.alloc (.cells #[.int .i64 0] 31) := ⟨_, rfl⟩
  have hbW : Below w.heap.size w W := by rw [hW]; exact (Below.refl _ _).alloc (Nat.le_refl _) _
  have hrW : W.heap[rc]? = some (.cells #[.int .i64 0] 31 (0, 0)) := by rw [hW, hrc]; exact heap_alloc_new _ _
  have hlen := files_len L hr
  have HRT := Lib.hid (fRight_any lv L W (hL.step hbW) hok)
  rw [hr] at HRT
  have HFI := Lib.hid (fun wx (hb : Below w.heap.size w wx) => wFiles_any lv L wx (hL.step hb) (by omega) (hg wx (hD.2.1.trans (hb.mono hD.1))))
  have HBW := Lib.hid hbW
  have HRC := Lib.hid hrc
  have HRZ := Lib.hid (roomZ_eq n h4)
  have HDD := Lib.hid hD
  have HSB := Lib.hid k1
  obtain ⟨lA, lc, rfl, _⟩ := hL.shape
  generalize Wr.files L = U at *
  clear hbW hL hok hr hg hD k1
  go_enter_defers Tryz.func12, Tryz.ntmps12
  go_wp2_with fail
  rw [← hW, ← hrc]
  clear hW hrc
  refine HRT.out.mono ?_
  rintro e w1 ⟨rfl, b1⟩
  have HB1 := Lib.hid (below_via HBW.out b1)
  have hr1 := (b1.block rc (lt_of_block hrW)).trans hrW
  clear b1 hrW
  go_wp2_with fail
  refine (HFI.out w1 HB1.out).mono ?_
  rintro e w2 ⟨rfl, b2⟩
  have HB2 := Lib.hid (below_via HB1.out b2)
  have hr2 := (b2.block rc (lt_of_block hr1)).trans hr1
  have hS2 := (HB2.out.block sb (lt_of_block HSB.out)).trans HSB.out
  obtain ⟨s0, _, _, _, _, _, _⟩ := sblk_cells hS2
  have HLEN := Lib.hid (hn ▸ len_in ((HDD.out.below HB2.out).1.to_in))
  have hroom := room_any (n : Int) w2
  rw [HRZ.out] at hroom
  have hzU := bs_size U
  have c0 : w2.cell? ⟨rc, 0, none⟩ = some (.int .i64 0) := by rw [Lib.cell_of_heap hr2]; rfl
  have f0 : w2.frozen? ⟨rc, 0, none⟩ = false := Lib.frozen_of_heap hr2 0
  obtain ⟨rm, hrm⟩ : ∃ rm, rm = 64 * Sq.half n := ⟨_, rfl⟩
  rw [← hrm] at hroom hU
  have hUi : (rm : Int) < (U.length : Int) := by omega
  clear b2 hr1 hrm
  go_wp2_with fail
  refine HLEN.out.mono ?_
  rintro e w3 ⟨rfl, rfl⟩
  go_wp2_with fail
  refine hroom.mono ?_
  rintro e w3 ⟨rfl, rfl⟩
  go_wp2_with fail
  exact door0 rfl rfl (wr_cells_set (j := 0) hr2 (.int .i64 7)) ⟨rfl, HB2.out.setCell (p := ⟨rc, 0, none⟩) (by show w.heap.size ≤ rc; rw [HRC.out]; exact Nat.le_refl _) _⟩
/-- What is wrong with a map. -/
def mayZ (L : List Wr.F) (n : Int) : Int := if Wr.right L = false then 5 else if roomZ n < ((Wr.files L).length : Int) then 7 else 0
set_option maxRecDepth 100000 in
set_option maxHeartbeats 4000000 in
theorem may_any (lv : Value) (L : List Wr.F) (n : Int) (w : World) (hL : RowC 2 ff w w.heap.size lv L) (hok : ∀ f ∈ L, FOk f) :
    Calls Tryz.prog 13 #[lv, .int .i64 n] w fun e w' => e = .returned (.int .i64 (mayZ L n)) ∧ Below w.heap.size w w' := by
  have HR := Lib.hid (rRight_any lv L w hL hok)
  have HL := Lib.hid hL
  obtain ⟨lA, lc, rfl, _⟩ := hL.shape
  clear hL hok
  unfold mayZ
  cases hr : Wr.right L with
  | false =>
    rw [hr] at HR
    rw [if_pos rfl]
    clear hr
    go_enter Tryz.func13, Tryz.ntmps13
    go_wp2_with fail
    refine HR.out.mono ?_
    rintro e w1 ⟨rfl, nq, h1⟩
    go_wp2_with fail
    go_ret
    exact ⟨rfl, below_of_drewN (a := w) (B := w.heap.size) nq⟩
  | true =>
    rw [hr] at HR
    rw [if_neg (by simp)]
    have hlen := files_len L hr
    have HF := Lib.hid (fun wx (hb : Below w.heap.size w wx) => rFiles_any _ L wx (HL.out.step hb) (by omega))
    have hz := bs_size (Wr.files L)
    generalize Wr.files L = U at *
    obtain ⟨rm, hrm⟩ : ∃ rm, rm = roomZ n := ⟨_, rfl⟩
    have HRM := Lib.hid (fun wx => rroom_any n wx)
    rw [← hrm] at HRM ⊢
    clear hr hrm
    by_cases hlt : rm < (U.length : Int)
    · rw [if_pos hlt]
      go_enter Tryz.func13, Tryz.ntmps13
      go_wp2_with fail
      refine HR.out.mono ?_
      rintro e w1 ⟨rfl, nq, h1⟩
      have b1 : Below w.heap.size w w1 := by rw [h1]; exact below_of_drewN (a := w) (B := w.heap.size) nq
      have HB1 := Lib.hid b1
      clear h1 b1
      go_wp2_with fail
      refine (HF.out w1 HB1.out).mono ?_
      rintro e w2 ⟨rfl, b2⟩
      have HB2 := Lib.hid (below_via HB1.out b2)
      clear b2
      go_wp2_with fail
      refine (HRM.out w2).mono ?_
      rintro e w3 ⟨rfl, rfl⟩
      go_wp2_with fail
      go_ret
      exact ⟨rfl, HB2.out⟩
    · rw [if_neg hlt]
      go_enter Tryz.func13, Tryz.ntmps13
      go_wp2_with fail
      refine HR.out.mono ?_
      rintro e w1 ⟨rfl, nq, h1⟩
      have b1 : Below w.heap.size w w1 := by rw [h1]; exact below_of_drewN (a := w) (B := w.heap.size) nq
      have HB1 := Lib.hid b1
      clear h1 b1
      go_wp2_with fail
      refine (HF.out w1 HB1.out).mono ?_
      rintro e w2 ⟨rfl, b2⟩
      have HB2 := Lib.hid (below_via HB1.out b2)
      clear b2
      go_wp2_with fail
      refine (HRM.out w2).mono ?_
      rintro e w3 ⟨rfl, rfl⟩
      go_wp2_with fail
      go_ret
      exact ⟨rfl, HB2.out⟩
set_option maxRecDepth 100000 in
set_option maxHeartbeats 4000000 in
theorem lsame_any {q : Bool} (v1 v2 : Value) (a b : List Wr.F) (hq : q = true ↔ a = b) (w : World) (h1 : RowC 2 ff w w.heap.size v1 a) (h2 : RowC 2 ff w w.heap.size v2 b) (hn : a.length < 1000000) (hm : b.length < 1000000) :
    Calls Tryz.prog 14 #[v1, v2] w fun e w' => e = .returned (.bool q) ∧ ∃ n, w' = w.drewN n := by
  have HQ := Lib.hid hq
  have HNE : Hid (a ≠ b → q = false) := Lib.hid (fun h => by cases q with | false => rfl | true => exact absurd (hq.1 rfl) h)
  obtain ⟨A1, p1, rfl, _, _, z1⟩ := h1.shape
  obtain ⟨A2, p2, rfl, _, _, z2⟩ := h2.shape
  have Z1 := Lib.hid z1
  have Z2 := Lib.hid z2
  clear z1 z2 h1 h2 hq
  by_cases hl : a.length = b.length
  · have hl2 : ((a.length : Int) != (b.length : Int)) = false := by rw [hl]; simp
    have HL := Lib.hid hl
    clear hl
    go_enter Tryz.func14, Tryz.ntmps14
    go_wp2_with fail
    go_loopw [5] (fun i wr => ∃ j n : Nat, j ≤ a.length ∧ i = .int .i64 j ∧ a.take j = b.take j ∧ wr = w.drewN n) (fun i _ => a.length - (intOf i).toNat)
    case atStart => exact ⟨0, 0, Nat.zero_le _, rfl, rfl, rfl⟩
    case round =>
      obtain ⟨j, n2, hj, rfl, hjk, rfl⟩ := hrel
      have HJ := Lib.hid hjk
      clear hjk
      by_cases hjt : j < a.length
      · have hjt2 : j < b.length := by rw [← HL.out]; exact hjt
        obtain ⟨g3, o3, rfl, hg3, hc3⟩ := Z1.out (by intro e; rw [e] at hjt; simp at hjt)
        obtain ⟨g4, o4, rfl, hg4, hc4⟩ := Z2.out (by intro e; rw [e] at hjt2; simp at hjt2)
        obtain ⟨f1, f2⟩ := ff_cells (fun i u hu => hc3 j hjt i u hu)
        obtain ⟨f3, f4⟩ := ff_cells (fun i u hu => hc4 j hjt2 i u hu)
        have HC : Hid (a.take (j + 1) = a.take j ++ [a[j]]) := Lib.hid (List.take_succ_eq_append_getElem hjt)
        have HD : Hid (b.take (j + 1) = b.take j ++ [b[j]]) := Lib.hid (List.take_succ_eq_append_getElem hjt2)
        have HCX : Hid (a[j]? = some a[j]) := Lib.hid (List.getElem?_eq_getElem hjt)
        have HDX : Hid (b[j]? = some b[j]) := Lib.hid (List.getElem?_eq_getElem hjt2)
        clear hc3 hc4
        generalize a[j] = p at *
        generalize b[j] = s at *
        have m4 : (j : Int) < (a.length : Int) := by omega
        have m5 : (j : Int) < (b.length : Int) := by omega
        have m6 : (0 : Int) ≤ (j : Int) := by omega
        have heq := eqAtF p s
        by_cases hps : p = s
        · subst hps
          rw [eqF_self] at heq
          go_wp2_with fail
          go_quiet (fail)
          go_wp2_with fail
          go_roundw
          case rel => exact ⟨j + 1, _, by omega, by go_num, by rw [HC.out, HD.out, HJ.out], by first | rfl | exact World.drewN_drewN _ _ _⟩
          case measure => simp [intOf]; omega
        · rw [eqF_ne _ _ hps] at heq
          have HNO : Hid (q = false) := Lib.hid (HNE.out fun e => by subst e; rw [HCX.out] at HDX; exact hps (Option.some.inj HDX.out))
          clear hps
          go_wp2_with fail
          go_quiet (fail)
          go_wp2_with fail
          go_ret
          exact ⟨by rw [HNO.out]; rfl, _, by first | rfl | exact World.drewN_drewN _ _ _⟩
      · obtain rfl : j = a.length := by omega
        have hqt : q = true := HQ.out.2 (by have h9 := HJ.out; rw [List.take_length, HL.out, List.take_length] at h9; exact h9)
        have hjb : ¬ (a.length : Int) < (a.length : Int) := by omega
        subst hqt
        go_wp2_with fail
        go_ret
        exact ⟨rfl, _, rfl⟩
  · have hl2 : ((a.length : Int) != (b.length : Int)) = true := by simp; omega
    have hqf := HNE.out (fun e => hl (by rw [e]))
    subst hqf
    clear hl
    go_enter Tryz.func14, Tryz.ntmps14
    go_wp2_with fail
    go_ret
    exact ⟨rfl, 0, rfl⟩
end Go.Proofs.YtkoegbjnhoecoaaGreatDoor
