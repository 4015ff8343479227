/- (*Store).Commit. -/
import Derived.Test.YtkoegbjnhoecoaaGreatDoorStW7c
namespace Go.Proofs.YtkoegbjnhoecoaaGreatDoor
open Go.RowKit Tx

theorem files_len (l : List Wr.F) (h : Wr.right l = true) : (Wr.files l).length ≤ 160000 := by
  have hr := Wr.right_of h
  have key : ∀ m : List Wr.F, (∀ f ∈ m, Wr.fileOk f = true) → (Wr.files m).length ≤ 5000 * m.length := by
    intro m
    induction m with
    | nil => intro _; simp [Wr.files]
    | cons f m ih =>
      intro hm
      have h1 := Wr.fileOk_len (hm f (by simp))
      have h2 := ih (fun g hg => hm g (by simp [hg]))
      have d1 := dig_len f.1.length (by omega)
      have d2 := dig_len f.2.length (by omega)
      have e : (Wr.files (f :: m)).length = (Wr.put f.1).length + (Wr.put f.2).length + (Wr.files m).length := by simp [Wr.files]; omega
      rw [e]
      simp only [Wr.put, List.length_append, List.length_cons, List.length_nil]
      omega
  have := key l hr.ok
  have := hr.most
  omega
theorem FOk_right {l : List Wr.F} (h : Wr.right l = true) : l.length ≤ 32 := (Wr.right_of h).most
theorem roomZ_eq (n : Nat) (h : 4 ≤ n ∧ n ≤ 4096) : roomZ n = ((64 * Sq.half n : Nat) : Int) := by
  unfold roomZ
  rw [if_neg (by omega)]
  congr 3
  omega
theorem inR_more {B : Nat} {w0 w w' : World} {bd : Nat} {d : Dk.St} {R : List Nat} (h : Dk.InR B w0 w bd d R) (hb : Below w.heap.size w w') {k : Nat} (h1 : w.heap.size ≤ k) (h2 : k < w'.heap.size) : Dk.InR B w0 w' bd d (k :: R) :=
  h.turn (Moved.of_below hb _) fun j hj => by
    rcases List.mem_cons.1 hj with rfl | hj
    · exact ⟨.inr h1, h2⟩
    · exact ⟨.inl hj, Nat.lt_of_lt_of_le (h.2.2.1 j hj).1 hb.size⟩
def CommitPost (B : Nat) (w0 w : World) (bd n : Nat) (d : Dk.St) (sb : Nat) (h0 h1 : Sq.Head) (T : Bs) (L : List Wr.F) (R : List Nat) (e : Ending) (w' : World) : Prop :=
  (∀ k ∈ R, k ≠ sb → w'.heap[k]? = w.heap[k]?) ∧ ((e = .returned (.int .i64 0) ∧ ∃ d' R', StIn B w0 w' bd d' sb (Sq.n0 h0 h1 (Wr.files L)) (Sq.n1 h0 h1 (Wr.files L)) L R' ∧ (∀ k ∈ R, k ∈ R') ∧ Base d d' ∧ d'.pend = [] ∧ Sq.Good n d'.held (Sq.n0 h0 h1 (Wr.files L)) (Sq.n1 h0 h1 (Wr.files L)) (Wr.files L) ∧ d'.cnt ≤ d.cnt + Sq.cnt (Wr.files L) + 1 ∧ Dk.dead d.lim = false ∧ ∃ fv, w'.heap[sb]? = some (SBlk bd (Sq.n0 h0 h1 (Wr.files L)) (Sq.n1 h0 h1 (Wr.files L)) fv) ∧ ∀ k, fv.ownBlock = some k → k ∉ R) ∨
  (e = .returned (.int .i64 8) ∧ ∃ d', Dk.InR B w0 w' bd d' R ∧ Base d d' ∧ Sq.Mid n d'.held d'.pend h0 h1 T (Wr.files L) ∧ d'.cnt + d'.pend.length ≤ d.cnt + Sq.cnt (Wr.files L) + 1 ∧ d.lim ≠ none ∧ Sq.Good n d'.held h0 h1 T ∧ (Dk.dead d.lim = true → d'.pend = [])))
set_option maxRecDepth 100000 in
set_option maxHeartbeats 8000000 in
theorem commit_any {B : Nat} {w0 w : World} {bd : Nat} {d : Dk.St} {sb : Nat} {h0 h1 : Sq.Head} {l : List Wr.F} {R : List Nat} (n : Nat) (T : Bs) (lv : Value) (L : List Wr.F) (hS : StIn B w0 w bd d sb h0 h1 l R) (hL : RowK B R sb w lv L) (hn : d.n = (n : Int)) (h4 : 4 ≤ n ∧ n ≤ 4096)
    (hp : d.pend = []) (hc : d.cnt < 800000) (hG : Sq.Good n d.held h0 h1 T) (c0 : h0.1 ≤ 900000000 ∧ h0.2 ≤ 900000000) (c1 : h1.1 ≤ 900000000 ∧ h1.2 ≤ 900000000) (hr : Wr.right L = true) (hU : (Wr.files L).length ≤ 64 * Sq.half n) (hok : ∀ f ∈ L, FOk f) (hg : ∀ wx, Below B w0 wx → Gl wx) :
    Calls Tryz.prog 12 #[.pointer (some ⟨sb, 0, none⟩), lv] w (CommitPost B w0 w bd n d sb h0 h1 T L R) := by
  obtain ⟨hD, hmem, fv, k1, k2, k3, k4⟩ := hS
  obtain ⟨hrow, hnil, hblk⟩ := hL
  obtain ⟨rc, hrc⟩ : ∃ rc, rc = w.heap.size := ⟨_, rfl⟩
  obtain ⟨W, hW⟩ : ∃ W, W = w.alloc (.cells #[.int .i64 0] 31) := ⟨_, rfl⟩
  have hbW : Below w.heap.size w W := by rw [hW]; exact (Below.refl _ _).alloc (Nat.le_refl _) _
  have hrW : W.heap[rc]? = some (.cells #[.int .i64 0] 31 (0, 0)) := by rw [hW, hrc]; exact heap_alloc_new _ _
  have HDW := Lib.hid (show Dk.InR B w0 W bd d (rc :: R) by rw [hW, hrc]; exact hD.add _)
  have HSW := Lib.hid ((hbW.block sb (lt_of_block k1)).trans k1)
  have HROW := Lib.hid hrow
  have HRL := Lib.hid (fun k (hk : k ∈ R) => (hD.2.2.1 k hk).1)
  have HBW0 := Lib.hid hD.2.1
  have HWS := Lib.hid hD.1
  have hlen := files_len L hr
  have hl32 := FOk_right hr
  have HRT := Lib.hid (fRight_any lv L W (hrow.step hbW) hok)
  rw [hr] at HRT
  have HFI := Lib.hid (fun wx (hb : Below w.heap.size w wx) => wFiles_any lv L wx (hrow.step hb) (by omega) (hg wx (hD.2.1.trans (hb.mono hD.1))))
  have HBW := Lib.hid hbW
  have HRC := Lib.hid hrc
  have hmf : ∀ (fn : Fn) (first cap : Array Value) (w : World), (Instr.makeFunc fn first cap).run Tryz.prog w = .ok (.func fn first cap) w := fun _ _ _ _ => rfl
  have HRZ := Lib.hid (roomZ_eq n h4)
  obtain ⟨U, hUe⟩ : ∃ U, U = Wr.files L := ⟨_, rfl⟩
  unfold CommitPost
  rw [← hUe] at hU HFI hlen ⊢
  obtain ⟨lA, lc, rfl, _⟩ := hrow.shape
  have HUE := Lib.hid hUe
  clear hbW hD k1 hrow hok hr hUe
  go_enter_defers Tryz.func12, Tryz.ntmps12
  go_wp2_with fail
  rw [← hW, ← hrc]
  clear hW hrc
  refine HRT.out.mono ?_
  rintro e w1 ⟨rfl, b1⟩
  have HB1 := Lib.hid (below_via HBW.out b1)
  have HD1 := Lib.hid (HDW.out.below b1).1
  have hr1 := (b1.block rc (lt_of_block hrW)).trans hrW
  have HS1 := Lib.hid ((b1.block sb (lt_of_block HSW.out)).trans HSW.out)
  clear b1 hrW
  go_wp2_with fail
  refine (HFI.out w1 HB1.out).mono ?_
  rintro e w2 ⟨rfl, b2⟩
  have HB2 := Lib.hid (below_via HB1.out b2)
  have HD2 := Lib.hid (HD1.out.below b2).1
  have hr2 := (b2.block rc (lt_of_block hr1)).trans hr1
  have hS2 := (b2.block sb (lt_of_block HS1.out)).trans HS1.out
  obtain ⟨s0, s1, s2, s3, s4, s5, sf⟩ := sblk_cells hS2
  have HLEN := Lib.hid (hn ▸ len_in HD2.out.to_in)
  have hroom := room_any (n : Int) w2
  rw [HRZ.out] at hroom
  have hUi : ¬ (((64 * Sq.half n : Nat) : Int) < (U.length : Int)) := by omega
  have hzU := bs_size U
  clear b2 hr1
  go_wp2_with fail
  refine HLEN.out.mono ?_
  rintro e w3 ⟨rfl, rfl⟩
  go_wp2_with fail
  refine hroom.mono ?_
  rintro e w3 ⟨rfl, rfl⟩
  go_wp2_with fail
  have HNX : Hid (Sq.next h0 h1 U = (max h0.1 h1.1 + 1, U.length)) := Lib.hid rfl
  obtain ⟨M, hM⟩ : ∃ M, M = max h0.1 h1.1 := ⟨_, rfl⟩
  have hMi : max (h0.1 : Int) (h1.1 : Int) = (M : Int) := by omega
  have hMl : M ≤ 900000000 := by omega
  obtain ⟨N, hN⟩ : ∃ N, N = M + 1 := ⟨_, rfl⟩
  have hNi : IntKind.i64.wrap ((M : Int) + 1) = (N : Int) := by rw [hN, IntWalk.i64_in _ (by omega)]; simp
  have HN1 : Hid (Sq.next h0 h1 U = (N, U.length)) := Lib.hid (by rw [HNX.out, hN, hM])
  have hNl : N ≤ 900000001 := by omega
  have hnow := now_any sb bd h0 h1 fv w2 hS2
  have ha := Sq.now_le h0 h1
  have HGO := Lib.hid hG
  obtain ⟨a, hae⟩ : ∃ a, a = Sq.now h0 h1 := ⟨_, rfl⟩
  rw [← hae] at hnow ha
  obtain ⟨b, hb⟩ : ∃ b, b = 1 - a := ⟨_, rfl⟩
  have hbi : IntKind.i64.wrap (1 - (a : Int)) = (b : Int) := by rw [IntWalk.i64_in _ (by omega)]; omega
  have hb1 : b ≤ 1 := by omega
  have HBE : Hid (b = 1 - Sq.now h0 h1) := Lib.hid (by rw [hb, hae])
  clear hM hN hb hae hG HNX HRZ hUi
  refine hnow.mono ?_
  rintro e w3 ⟨rfl, nq, hw3⟩
  have b3 : Below w2.heap.size w2 w3 := by rw [hw3]; exact below_of_drewN (a := w2) (B := w2.heap.size) nq
  have HB3 := Lib.hid (below_via HB2.out b3)
  have HD3 := Lib.hid (HD2.out.below b3).1
  have hr3 := (b3.block rc (lt_of_block hr2)).trans hr2
  have hS3 := (b3.block sb (lt_of_block hS2)).trans hS2
  clear hw3 b3 hr2 hS2 s0 s1 s2 s3 s4 s5 sf hnow
  obtain ⟨s0, s1, s2, s3, s4, s5, sf⟩ := sblk_cells hS3
  clear s0 s2 s4 s5
  go_upto_region 8 with fail
  go_cut [7] from 26 to 43 (fun p wx => ∃ hb, p = .pointer (some ⟨hb, 0, none⟩) ∧ wx.heap[hb]? = some (.cells #[.int .i64 N, .int .i64 U.length] 57 (0, 0)) ∧ Below w3.heap.size w3 wx ∧ w3.heap.size ≤ hb)
  case first =>
    have hal := heap_alloc_new w3 (.cells #[.int .i64 N, .int .i64 U.length] 57)
    have hba := fun o => (Below.refl w3.heap.size w3).alloc (Nat.le_refl _) o
    have HAL := Lib.hid hal
    have HBA := Lib.hid hba
    clear hal hba
    go_region_held3 (fun wx => wx.cell? ⟨sb, 1, none⟩ = some (.int .i64 h0.1) ∧ wx.cell? ⟨sb, 3, none⟩ = some (.int .i64 h1.1)) (go_keep) (fail)
    all_goals (go_wp2_with fail)
    all_goals go_meet
    all_goals exact ⟨w3.heap.size, rfl, HAL.out, (HBA.out _).drew, Nat.le_refl _⟩
  case rest =>
    obtain ⟨hb, rfl, hh4, b4, hbn⟩ := hcut
    obtain ⟨w4, hw4⟩ : ∃ w4, w4 = wc := ⟨_, rfl⟩
    subst hw4
    have HB4 := Lib.hid (below_via HB3.out b4)
    have HD4 := Lib.hid (inR_more HD3.out b4 hbn (lt_of_block hh4))
    have hr4 := (b4.block rc (lt_of_block hr3)).trans hr3
    have hS4 := (b4.block sb (lt_of_block hS3)).trans hS3
    clear b4 hr3 hS3 s1 s3 sf
    have HLAY := Lib.hid (lay_any n b sb h0 h1 fv U HD4.out (by simp [hmem]) hS4 hn h4 hb1 hp (by omega) hU)
    go_wp2_with fail
    refine HLAY.out.mono ?_
    rintro e w5 ⟨d5, D5, S5, ⟨rfl, A5⟩ | ⟨rfl, B5⟩⟩
    · have hS5 := (S5 sb (by simp [hmem])).trans hS4
      have hr5 := (S5 rc (by simp)).trans hr4
      have hh5 := (S5 hb (by simp)).trans hh4
      obtain ⟨G5, G5d⟩ := HGO.out.laid hU
      rw [← HBE.out, ← A5.held] at G5 G5d
      have hd5n : d5.n = (n : Int) := A5.base.n.trans hn
      have HI5 := Lib.hid D5
      have HSM5 := Lib.hid S5
      have HG5 := Lib.hid G5
      have HG5d := Lib.hid G5d
      have HA5 := Lib.hid A5
      have hIb5 := D5.1
      have q0 : w5.cell? ⟨hb, 0, none⟩ = some (.int .i64 N) := by rw [Lib.cell_of_heap hh5]; rfl
      have q1 : w5.cell? ⟨hb, 1, none⟩ = some (.int .i64 U.length) := by rw [Lib.cell_of_heap hh5]; rfl
      have q2 := (sblk_cells hS5).1
      have hHB : hb < w5.heap.size := lt_of_block hh5
      have hSB : sb < w5.heap.size := lt_of_block hS5
      have HTX := Lib.hid (text_any N U.length (by omega) (by omega) w5.drew (hg _ D5.2.1.drew))
      have HHW : Hid (Sq.hw h0 h1 U = ((b : Int), bs (Sq.hd (N, U.length)))) := Lib.hid (by unfold Sq.hw; rw [HN1.out, HBE.out])
      have hht := Sq.hd_len (N, U.length) (by simp only; omega) (by simp only; omega)
      generalize Sq.hd (N, U.length) = ht at *
      have hS0 : (fun wz : World => wz.cell? ⟨sb, 0, none⟩ = some (.pointer (some ⟨bd, 0, none⟩)) ∧ wz.cell? ⟨hb, 0, none⟩ = some (.int .i64 N) ∧ wz.cell? ⟨hb, 1, none⟩ = some (.int .i64 U.length)) w5.drew := ⟨q2, q0, q1⟩
      have HDEAD : Hid (∀ wx d', Dk.InR B w0 wx bd d' (hb :: rc :: R) → Dk.Same (hb :: rc :: R) w4 wx → Base d d' → Sq.Mid n d'.held d'.pend h0 h1 T U → d'.cnt + d'.pend.length ≤ d.cnt + Sq.cnt U + 1 → d.lim ≠ none → Sq.Good n d'.held h0 h1 T → DeadF B w0 w4 bd n d h0 h1 T U (hb :: rc :: R) wx) := Lib.hid (fun wx d' x1 x2 x3 x4 x5 x6 x7 => ⟨d', x1, x2, x3, x4, x5, x6, x7, fun e => by rw [HA5.out.alive] at e; cases e⟩)
      have HP := Lib.hid (fun wx (hx : DeadF B w0 w4 bd n d h0 h1 T U (hb :: rc :: R) wx) => hx.post (fun k hk => HRL.out k hk) (by rw [HRC.out]; exact Nat.le_refl _) HB4.out (.cells #[.int .i64 8] 63) (.int .i64 8))
      have HRCX := Lib.hid (fun wx (hx : DeadF B w0 w4 bd n d h0 h1 T U (hb :: rc :: R) wx) => (show wx.heap[rc]? = some (.cells #[.int .i64 0] 31 (0, 0)) by obtain ⟨d', x1, x2, _⟩ := hx; exact (x2 rc (by simp)).trans hr4))
      have HH4 := Lib.hid hh4
      have HR4 := Lib.hid hr4
      clear hS4 hr4 hh4 S5 D5 A5 G5 G5d
      go_upto_region 10 with fail
      refine Code.wp_mono (PanQ.imp (D := catchD rc) (p := .pointer (some ⟨rc, 0, none⟩)) (F := DeadF B w0 w4 bd n d h0 h1 T U (hb :: rc :: R)) (fun a' w' e1 e2 e3 => ?pan)) ?_
      case pan => exact door_panic (rc := rc) e1 e2 (HRCX.out w' e3) ⟨fun k hk _ => (HP.out w' e3).1 k hk, .inr ⟨rfl, (HP.out w' e3).2⟩⟩
      refine wp_region_headS 7 (fun wz : World => wz.cell? ⟨sb, 0, none⟩ = some (.pointer (some ⟨bd, 0, none⟩)) ∧ wz.cell? ⟨hb, 0, none⟩ = some (.int .i64 N) ∧ wz.cell? ⟨hb, 1, none⟩ = some (.int .i64 U.length)) (by kernel_rfl) (by kernel_rfl) ?_
      refine WS_take (i := 0) (v := ?v0) (by simp only [List.getElem?_toArray, List.getElem?_cons_zero]; rfl) (by decide) (by kernel_rfl) (by kernel_rfl) (PanQ.put (by simp)) (Or.inl ⟨by rfl, ?hy0⟩) hS0 ?rest0
      case hy0 =>
        intro wx hx
        obtain ⟨s1, s2, s3⟩ := hx
        go_simp
        try with_reducible rfl
      try simp only [Act.put, List.setIfInBounds_toArray, List.set_cons_zero, List.set_cons_succ]
      refine WS_take (i := 1) (v := ?v1) (by simp only [List.getElem?_toArray, List.getElem?_cons_succ, List.getElem?_cons_zero]; rfl) (by decide) (by kernel_rfl) (by kernel_rfl) (PanQ.put (by simp)) (Or.inl ⟨by rfl, ?hy1⟩) hS0 ?rest1
      case hy1 =>
        intro wx hx
        obtain ⟨s1, s2, s3⟩ := hx
        go_simp
        try with_reducible rfl
      try simp only [Act.put, List.setIfInBounds_toArray, List.set_cons_zero, List.set_cons_succ]
      refine WS_take (i := 2) (v := ?v2) (by simp only [List.getElem?_toArray, List.getElem?_cons_succ, List.getElem?_cons_zero]; rfl) (by decide) (by kernel_rfl) (by kernel_rfl) (PanQ.put (by simp)) (Or.inl ⟨by rfl, ?hy2⟩) hS0 ?rest2
      case hy2 =>
        intro wx hx
        obtain ⟨s1, s2, s3⟩ := hx
        go_simp
        try with_reducible rfl
      try simp only [Act.put, List.setIfInBounds_toArray, List.set_cons_zero, List.set_cons_succ]
      refine WS_take (i := 3) (v := ?v3) (by simp only [List.getElem?_toArray, List.getElem?_cons_succ, List.getElem?_cons_zero]; rfl) (by decide) (by kernel_rfl) (by kernel_rfl) (PanQ.put (by simp)) (Or.inl ⟨by rfl, ?hy3⟩) hS0 ?rest3
      case hy3 =>
        intro wx hx
        obtain ⟨s1, s2, s3⟩ := hx
        go_simp
        try with_reducible rfl
      try simp only [Act.put, List.setIfInBounds_toArray, List.set_cons_zero, List.set_cons_succ]
      refine WS_take (i := 4) (v := ?v4) (by simp only [List.getElem?_toArray, List.getElem?_cons_succ, List.getElem?_cons_zero]; rfl) (by decide) (by kernel_rfl) (by kernel_rfl) (PanQ.put (by simp)) (Or.inl ⟨by rfl, ?hy4⟩) hS0 ?rest4
      case hy4 =>
        intro wx hx
        obtain ⟨s1, s2, s3⟩ := hx
        go_simp
        try with_reducible rfl
      try simp only [Act.put, List.setIfInBounds_toArray, List.set_cons_zero, List.set_cons_succ]
      refine WS_take (i := 5) (v := ?v5) (by simp only [List.getElem?_toArray, List.getElem?_cons_succ, List.getElem?_cons_zero]; rfl) (by decide) (by kernel_rfl) (by kernel_rfl) (PanQ.put (by simp)) (Or.inl ⟨by rfl, ?hy5⟩) hS0 ?rest5
      case hy5 =>
        intro wx hx
        obtain ⟨s1, s2, s3⟩ := hx
        go_simp
        try with_reducible rfl
      try simp only [Act.put, List.setIfInBounds_toArray, List.set_cons_zero, List.set_cons_succ]
      refine WS_one (i := 6) (by simp only [List.getElem?_toArray, List.getElem?_cons_succ, List.getElem?_cons_zero]; rfl) (by decide) (by kernel_rfl) (fun K hK => (if_pos (by kernel_rfl)).mpr ?_)
      go_simp
      refine HTX.out.mono ?_
      rintro e w6 ⟨rfl, b6⟩
      dsimp only
      have b6' : Below w5.heap.size w5 w6 := (Below.refl w5.heap.size w5).drew.trans b6
      have hS0' : (fun wz : World => wz.cell? ⟨sb, 0, none⟩ = some (.pointer (some ⟨bd, 0, none⟩)) ∧ wz.cell? ⟨hb, 0, none⟩ = some (.int .i64 N) ∧ wz.cell? ⟨hb, 1, none⟩ = some (.int .i64 U.length)) w6 := ⟨(b6'.cell (p := ⟨sb, 0, none⟩) hSB).trans q2, (b6'.cell (p := ⟨hb, 0, none⟩) hHB).trans q0, (b6'.cell (p := ⟨hb, 1, none⟩) hHB).trans q1⟩
      refine hK _ _ hS0' ?_
      clear hK K
      try simp only [Act.put, List.setIfInBounds_toArray, List.set_cons_zero, List.set_cons_succ]
      refine WS_done (by kernel_rfl) ?_
      simp only [List.drop_succ_cons, List.drop_zero]
      have HI6 := Lib.hid (HI5.out.below b6').1
      have HSM6 := Lib.hid (Same.trans HSM5.out (HI5.out.below b6').2)
      have hS6 := (b6'.block sb hSB).trans hS5
      have hht2 : (bs ht).size ≤ 64 := by rw [bs_size]; exact hht
      have hbn2 : ((b : Nat) : Int) < d5.n := by rw [hd5n]; omega
      have hp5 : d5.pend = [] := HA5.out.pend
      have hc5 : d5.cnt = d.cnt + Sq.cnt U := HA5.out.cnt
      have hlim : d5.lim ≠ none → d.lim ≠ none := fun x e => x (HA5.out.base.live e)
      have hcu := Sq.cnt_le hU
      have hhl := half_le n h4.2
      clear b6 b6' hS0 hS0' q0 q1 q2 hS5 hr5 hh5
      cases hdd : Dk.dead d5.lim with
      | true =>
        have HW := Lib.hid (write_inR 8 b (bs ht) HI6.out (by rw [hp5]; simp) (by omega) (WalkArith.wf_i64 (by omega)) (by rw [write_no d5 b _ hbn2 hht2 hdd]))
        rw [write_no d5 b _ hbn2 hht2 hdd] at HW
        have HM : Hid (Sq.Mid n d5.held d5.pend h0 h1 T U) := Lib.hid (by rw [hp5]; exact HG5.out.mid_none)
        have hlx := hlim (dead_some hdd)
        clear hdd
        go_wp2_with fail
        refine HW.out.mono ?_
        rintro e w7 ⟨rfl, D7, S7⟩
        go_wp2_with fail
        refine (must_dead w7).mono ?_
        rintro e w8 ⟨rfl, rfl⟩
        exact ⟨rfl, rfl, rfl, HDEAD.out _ d5 D7 (Same.trans HSM6.out S7) HA5.out.base HM.out (by rw [hc5, hp5]; simp) hlx HG5.out⟩
      | false =>
        have HW := Lib.hid (write_inR 0 b (bs ht) HI6.out (by rw [hp5]; simp) (by omega) (WalkArith.wf_i64 (by omega)) (by rw [write_yes d5 b _ hbn2 hht2 hdd]))
        rw [write_yes d5 b _ hbn2 hht2 hdd, hp5, List.nil_append, ← HHW.out] at HW
        have HAL5 := Lib.hid hdd
        clear hdd
        go_wp2_with fail
        refine HW.out.mono ?_
        rintro e w7 ⟨rfl, D7, S7⟩
        have HI7 := Lib.hid D7
        have HSM7 := Lib.hid (Same.trans HSM6.out S7)
        have hS7 := (S7 sb (by simp [hmem])).trans hS6
        clear S7 D7 hS6
        go_wp2_with fail
        refine (must_ok w7).mono ?_
        rintro e w8 ⟨rfl, rfl⟩
        go_wp2_with fail
        refine PanQ.normal ?_
        obtain ⟨g0, _, _, _, _, _, _⟩ := sblk_cells hS7
        obtain ⟨d6, hd6⟩ : ∃ d6, d6 = ({ d5 with lim := Dk.used d5.lim, pend := [Sq.hw h0 h1 U] } : Dk.St) := ⟨_, rfl⟩
        rw [← hd6] at HI7
        have e1 : d6.held = d5.held := by rw [hd6]
        have e2 : d6.pend = [Sq.hw h0 h1 U] := by rw [hd6]
        have e3 : d6.cnt = d5.cnt := by rw [hd6]
        have e4 : Base d d6 := by rw [hd6]; exact ⟨HA5.out.base.n, fun x => used_none (HA5.out.base.live x)⟩
        have E4 := Lib.hid e4
        clear hd6 e4
        cases hdd : Dk.dead d6.lim with
        | true =>
          have HSY := Lib.hid (sync_inR 8 HI7.out (by rw [e2, e3, hc5]; simp; omega) (by rw [sync_no d6 hdd]))
          rw [sync_no d6 hdd] at HSY
          have HG6 : Hid (Sq.Good n d6.held h0 h1 T) := Lib.hid (by rw [e1]; exact HG5.out)
          have HM : Hid (Sq.Mid n d6.held d6.pend h0 h1 T U) := Lib.hid (by rw [e1, e2]; exact HG5.out.mid_head hU (by rw [← HBE.out]; exact HG5d.out))
          have hlx : d.lim ≠ none := fun x => dead_some hdd (E4.out.live x)
          have hcx : d6.cnt + d6.pend.length ≤ d.cnt + Sq.cnt U + 1 := by rw [e2, e3, hc5]; simp
          clear hdd e1 e2 e3
          go_wp2_with fail
          refine HSY.out.mono ?_
          rintro e w8 ⟨rfl, D8, S8⟩
          go_wp2_with fail
          refine (must_dead w8).mono ?_
          rintro e w9 ⟨rfl, rfl⟩
          have hF := HDEAD.out _ d6 D8 (Same.trans HSM7.out S8) E4.out HM.out hcx hlx HG6.out
          refine door_panic (rc := rc) rfl rfl (HRCX.out _ hF) ⟨fun k hk _ => (HP.out _ hF).1 k hk, .inr ⟨rfl, (HP.out _ hF).2⟩⟩
        | false =>
          have HSY := Lib.hid (sync_inR 0 HI7.out (by rw [e2, e3, hc5]; simp; omega) (by rw [sync_yes d6 hdd]))
          rw [sync_yes d6 hdd] at HSY
          obtain ⟨d8, hd8⟩ : ∃ d8, d8 = ({ d6 with lim := Dk.used d6.lim, held := Dk.puts d6.held d6.pend, cnt := d6.cnt + d6.pend.length, pend := [] } : Dk.St) := ⟨_, rfl⟩
          simp only at HSY
          rw [← hd8] at HSY
          have HG8 : Hid (Sq.Good n d8.held (Sq.n0 h0 h1 U) (Sq.n1 h0 h1 U) U) := Lib.hid (by
            rw [hd8]
            show Sq.Good n (Dk.puts d6.held d6.pend) _ _ _
            rw [e1, e2]
            exact HG5.out.head hU (by rw [← HBE.out]; exact HG5d.out))
          have hp8 : d8.pend = [] := by rw [hd8]
          have hc8 : d8.cnt = d.cnt + Sq.cnt U + 1 := by rw [hd8]; simp only; rw [e2, e3, hc5]; simp
          have HB8 : Hid (Base d d8) := Lib.hid (by rw [hd8]; exact ⟨E4.out.n, fun x => used_none (E4.out.live x)⟩)
          clear hdd e1 e2 e3 hd8
          go_wp2_with fail
          refine HSY.out.mono ?_
          rintro e w8 ⟨rfl, D8, S8⟩
          have HI8 := Lib.hid D8
          have HSM8 := Lib.hid (Same.trans HSM7.out S8)
          have hS8 := (S8 sb (by simp [hmem])).trans hS7
          have hh8 := (HSM8.out hb (by simp)).trans HH4.out
          clear D8 S8 hS7 g0
          go_wp2_with fail
          refine (must_ok w8).mono ?_
          rintro e w9 ⟨rfl, rfl⟩
          rcases (by omega : b = 0 ∨ b = 1) with rfl | rfl
          · have hst9 : ((w9.setCell ⟨sb, 1, none⟩ (.int .i64 N)).setCell ⟨sb, 2, none⟩ (.int .i64 U.length)).drew.heap[sb]? = some (SBlk bd (N, U.length) h1 fv) := by show ((w9.setCell ⟨sb, 1, none⟩ (.int .i64 N)).setCell ⟨sb, 2, none⟩ (.int .i64 U.length)).heap[sb]? = _; simpa [SBlk] using wr_cells_set (j := 2) (wr_cells_set (w := w9) (j := 1) hS8 (.int .i64 N)) (.int .i64 U.length)
            obtain ⟨t0, t1, t2, t3, t4, t5, tf⟩ := sblk_cells hS8
            have tf1 : w9.frozen? ⟨sb, 1, none⟩ = false := tf 1
            have tf2 : w9.frozen? ⟨sb, 2, none⟩ = false := tf 2
            have tx1 := t1
            have tx2 := t2
            have tc2 : ∀ v, (w9.setCell ⟨sb, 1, none⟩ v).cell? ⟨sb, 2, none⟩ = some (.int .i64 h0.2) := fun v => by rw [Lib.cell_of_heap (wr_cells_set (w := w9) (j := 1) hS8 v)]; rfl
            have tff2 : ∀ v, (w9.setCell ⟨sb, 1, none⟩ v).frozen? ⟨sb, 2, none⟩ = false := fun v => Lib.frozen_of_heap (wr_cells_set (w := w9) (j := 1) hS8 v) 2
            have q0 : w9.cell? ⟨hb, 0, none⟩ = some (.int .i64 N) := by rw [Lib.cell_of_heap hh8]; rfl
            have q1 : w9.cell? ⟨hb, 1, none⟩ = some (.int .i64 U.length) := by rw [Lib.cell_of_heap hh8]; rfl
            clear t0 t1 t2 t3 t4 t5 tf
            go_wp2_with fail
            refine wp_region_quiet_tail 5 (by kernel_rfl) (by kernel_rfl) ?_
            simp only [List.take_succ_cons, List.take_zero, List.drop_succ_cons, List.drop_zero]
            repeat (go_big_quiet_step (fail))
            refine wpQuiet_nil ?_
            go_upto_region 13 with fail
            obtain ⟨W9, hW9⟩ : ∃ W9, W9 = ((w9.setCell ⟨sb, 1, none⟩ (.int .i64 N)).setCell ⟨sb, 2, none⟩ (.int .i64 U.length)).drew := ⟨_, rfl⟩
            rw [← hW9] at hst9 ⊢
            have HI9 : Hid (Dk.InR B w0 W9 bd d8 (hb :: rc :: R)) := Lib.hid (by
              rw [hW9]
              exact inR_drew (HI8.out.turn (((Moved.refl _ _).setCell sb 1 _ (.inl (by simp [hmem]))).setCell sb 2 _ (.inl (by simp [hmem]))) (fun k hk => ⟨.inl hk, by rw [World.size_setCell, World.size_setCell]; exact (HI8.out.2.2.1 k hk).1⟩)))
            have HO9 : Hid (∀ k, k ≠ sb → W9.heap[k]? = w9.heap[k]?) := Lib.hid (fun k hk => by
              rw [hW9]
              exact (Below.heap_setCell _ _ _ _ (fun e => hk (by simpa using e))).trans (Below.heap_setCell _ _ _ _ (fun e => hk (by simpa using e))))
            have hs9 : W9.heap.size = w9.heap.size := by rw [hW9]; simp [World.setCell]
            have HROW9 := Lib.hid (show RowC 2 ff W9 W9.heap.size (.slice lA L.length lc) L from rowC_ne HROW.out (fun hx k hk hlt => by
              rcases hblk hx k hk with hB | ⟨hR, hne⟩
              · exact ⟨Nat.lt_of_lt_of_le hB HI9.out.1, (HI9.out.2.1.block k hB).trans (HBW0.out.block k hB).symm⟩
              · exact ⟨(HI9.out.2.2.1 k (by simp [hR])).1, by rw [HO9.out k hne, HSM8.out k (by simp [hR]), HB4.out.block k hlt]⟩))
            have HCL := Lib.hid (clone_any _ L W9 HROW9.out hnil (by omega))
            clear hW9 hS8 hh8 q0 q1 tf1 tf2 tx1 tx2 tc2 tff2
            go_wp2_with fail
            refine HCL.out.mono ?_
            rintro e w10 ⟨v10, rfl, O10, b10⟩
            have hS10 := (b10.block sb (lt_of_block hst9)).trans hst9
            have hrcn : rc ∉ R := fun hx => by have := HRL.out rc hx; have := HRC.out; omega
            have hrc9 : W9.heap[rc]? = some (.cells #[.int .i64 0] 31 (0, 0)) := by rw [HO9.out rc (fun e => hrcn (e ▸ hmem)), HSM8.out rc (by simp), HR4.out]
            have hrc10 := (b10.block rc (lt_of_block hrc9)).trans hrc9
            have hrc11 : ∀ v, (w10.setCell ⟨sb, 5, none⟩ v).heap[rc]? = some (.cells #[.int .i64 0] 31 (0, 0)) := fun v => (show (w10.setCell ⟨sb, 5, none⟩ v).heap[rc]? = w10.heap[rc]? from Below.heap_setCell _ _ _ _ (fun e => hrcn ((show rc = sb from e) ▸ hmem))).trans hrc10
            obtain ⟨_, _, _, _, _, z5, zf⟩ := sblk_cells hS10
            have zf5 := zf 5
            have y0 : ∀ v, (w10.setCell ⟨sb, 5, none⟩ v).cell? ⟨rc, 0, none⟩ = some (.int .i64 0) := fun v => by rw [Lib.cell_of_heap (hrc11 v)]; rfl
            have y1 : ∀ v, (w10.setCell ⟨sb, 5, none⟩ v).frozen? ⟨rc, 0, none⟩ = false := fun v => Lib.frozen_of_heap (hrc11 v) 0
            have HO10 := Lib.hid O10
            have HB10 := Lib.hid b10
            have HS10 := Lib.hid hS10
            have HRC11 := Lib.hid hrc11
            obtain ⟨vA, vn, vc, rfl⟩ : ∃ A n c, v10 = .slice A n c := by obtain ⟨A, c, h, _⟩ := (O10.rowC ff_length).shape; exact ⟨A, _, c, h⟩
            clear zf O10 b10 hS10 hrc10 hrc11 hrc9 hst9
            go_wp2_with fail
            have hfin := fin_ok HI9.out HB10.out HO10.out HS10.out hmem hrcn (.int .i64 0) (.cells #[.int .i64 0] 63)
            have hdoor := wr_cells_set (j := 0) (HRC11.out (.slice vA vn vc)) (.int .i64 0)
            have hn0 : Sq.n0 h0 h1 U = (N, U.length) := by have h9 := HBE.out; unfold Sq.n0; rw [if_pos (by have := Sq.now_two h0 h1; omega), HN1.out]
            have hn1 : Sq.n1 h0 h1 U = h1 := by have h9 := HBE.out; unfold Sq.n1; rw [if_pos (by have := Sq.now_two h0 h1; omega)]
            refine door_ret (x := 0) rfl rfl hdoor ⟨fun k hk hne => ?_, .inl ⟨rfl, d8, (Value.slice vA vn vc).ownBlock.toList ++ R, ?_, fun k hk => List.mem_append_right _ hk, HB8.out, hp8, HG8.out, by rw [hc8]; exact Nat.le_refl _, HA5.out.alive, by rw [hn0, hn1]; exact hfin.2.2⟩⟩
            · rw [hfin.2.1 k hk hne, HO9.out k hne, HSM8.out k (by simp [hk]), HB4.out.block k (HRL.out k hk)]
            · rw [hn0, hn1]
              exact hfin.1
          · have hst9 : ((w9.setCell ⟨sb, 3, none⟩ (.int .i64 N)).setCell ⟨sb, 4, none⟩ (.int .i64 U.length)).drew.heap[sb]? = some (SBlk bd h0 (N, U.length) fv) := by show ((w9.setCell ⟨sb, 3, none⟩ (.int .i64 N)).setCell ⟨sb, 4, none⟩ (.int .i64 U.length)).heap[sb]? = _; simpa [SBlk] using wr_cells_set (j := 4) (wr_cells_set (w := w9) (j := 3) hS8 (.int .i64 N)) (.int .i64 U.length)
            obtain ⟨t0, t1, t2, t3, t4, t5, tf⟩ := sblk_cells hS8
            have tf3 : w9.frozen? ⟨sb, 3, none⟩ = false := tf 3
            have tf4 : w9.frozen? ⟨sb, 4, none⟩ = false := tf 4
            have tx3 := t3
            have tx4 := t4
            have tc4 : ∀ v, (w9.setCell ⟨sb, 3, none⟩ v).cell? ⟨sb, 4, none⟩ = some (.int .i64 h1.2) := fun v => by rw [Lib.cell_of_heap (wr_cells_set (w := w9) (j := 3) hS8 v)]; rfl
            have tff4 : ∀ v, (w9.setCell ⟨sb, 3, none⟩ v).frozen? ⟨sb, 4, none⟩ = false := fun v => Lib.frozen_of_heap (wr_cells_set (w := w9) (j := 3) hS8 v) 4
            have q0 : w9.cell? ⟨hb, 0, none⟩ = some (.int .i64 N) := by rw [Lib.cell_of_heap hh8]; rfl
            have q1 : w9.cell? ⟨hb, 1, none⟩ = some (.int .i64 U.length) := by rw [Lib.cell_of_heap hh8]; rfl
            clear t0 t1 t2 t3 t4 t5 tf
            go_wp2_with fail
            refine wp_region_quiet_tail 5 (by kernel_rfl) (by kernel_rfl) ?_
            simp only [List.take_succ_cons, List.take_zero, List.drop_succ_cons, List.drop_zero]
            repeat (go_big_quiet_step (fail))
            refine wpQuiet_nil ?_
            go_upto_region 13 with fail
            obtain ⟨W9, hW9⟩ : ∃ W9, W9 = ((w9.setCell ⟨sb, 3, none⟩ (.int .i64 N)).setCell ⟨sb, 4, none⟩ (.int .i64 U.length)).drew := ⟨_, rfl⟩
            rw [← hW9] at hst9 ⊢
            have HI9 : Hid (Dk.InR B w0 W9 bd d8 (hb :: rc :: R)) := Lib.hid (by
              rw [hW9]
              exact inR_drew (HI8.out.turn (((Moved.refl _ _).setCell sb 3 _ (.inl (by simp [hmem]))).setCell sb 4 _ (.inl (by simp [hmem]))) (fun k hk => ⟨.inl hk, by rw [World.size_setCell, World.size_setCell]; exact (HI8.out.2.2.1 k hk).1⟩)))
            have HO9 : Hid (∀ k, k ≠ sb → W9.heap[k]? = w9.heap[k]?) := Lib.hid (fun k hk => by
              rw [hW9]
              exact (Below.heap_setCell _ _ _ _ (fun e => hk (by simpa using e))).trans (Below.heap_setCell _ _ _ _ (fun e => hk (by simpa using e))))
            have hs9 : W9.heap.size = w9.heap.size := by rw [hW9]; simp [World.setCell]
            have HROW9 := Lib.hid (show RowC 2 ff W9 W9.heap.size (.slice lA L.length lc) L from rowC_ne HROW.out (fun hx k hk hlt => by
              rcases hblk hx k hk with hB | ⟨hR, hne⟩
              · exact ⟨Nat.lt_of_lt_of_le hB HI9.out.1, (HI9.out.2.1.block k hB).trans (HBW0.out.block k hB).symm⟩
              · exact ⟨(HI9.out.2.2.1 k (by simp [hR])).1, by rw [HO9.out k hne, HSM8.out k (by simp [hR]), HB4.out.block k hlt]⟩))
            have HCL := Lib.hid (clone_any _ L W9 HROW9.out hnil (by omega))
            clear hW9 hS8 hh8 q0 q1 tf3 tf4 tx3 tx4 tc4 tff4
            go_wp2_with fail
            refine HCL.out.mono ?_
            rintro e w10 ⟨v10, rfl, O10, b10⟩
            have hS10 := (b10.block sb (lt_of_block hst9)).trans hst9
            have hrcn : rc ∉ R := fun hx => by have := HRL.out rc hx; have := HRC.out; omega
            have hrc9 : W9.heap[rc]? = some (.cells #[.int .i64 0] 31 (0, 0)) := by rw [HO9.out rc (fun e => hrcn (e ▸ hmem)), HSM8.out rc (by simp), HR4.out]
            have hrc10 := (b10.block rc (lt_of_block hrc9)).trans hrc9
            have hrc11 : ∀ v, (w10.setCell ⟨sb, 5, none⟩ v).heap[rc]? = some (.cells #[.int .i64 0] 31 (0, 0)) := fun v => (show (w10.setCell ⟨sb, 5, none⟩ v).heap[rc]? = w10.heap[rc]? from Below.heap_setCell _ _ _ _ (fun e => hrcn ((show rc = sb from e) ▸ hmem))).trans hrc10
            obtain ⟨_, _, _, _, _, z5, zf⟩ := sblk_cells hS10
            have zf5 := zf 5
            have y0 : ∀ v, (w10.setCell ⟨sb, 5, none⟩ v).cell? ⟨rc, 0, none⟩ = some (.int .i64 0) := fun v => by rw [Lib.cell_of_heap (hrc11 v)]; rfl
            have y1 : ∀ v, (w10.setCell ⟨sb, 5, none⟩ v).frozen? ⟨rc, 0, none⟩ = false := fun v => Lib.frozen_of_heap (hrc11 v) 0
            have HO10 := Lib.hid O10
            have HB10 := Lib.hid b10
            have HS10 := Lib.hid hS10
            have HRC11 := Lib.hid hrc11
            obtain ⟨vA, vn, vc, rfl⟩ : ∃ A n c, v10 = .slice A n c := by obtain ⟨A, c, h, _⟩ := (O10.rowC ff_length).shape; exact ⟨A, _, c, h⟩
            clear zf O10 b10 hS10 hrc10 hrc11 hrc9 hst9
            go_wp2_with fail
            have hfin := fin_ok HI9.out HB10.out HO10.out HS10.out hmem hrcn (.int .i64 0) (.cells #[.int .i64 0] 63)
            have hdoor := wr_cells_set (j := 0) (HRC11.out (.slice vA vn vc)) (.int .i64 0)
            have hn0 : Sq.n0 h0 h1 U = h0 := by have h9 := HBE.out; unfold Sq.n0; rw [if_neg (by omega)]
            have hn1 : Sq.n1 h0 h1 U = (N, U.length) := by have h9 := HBE.out; unfold Sq.n1; rw [if_neg (by omega), HN1.out]
            refine door_ret (x := 0) rfl rfl hdoor ⟨fun k hk hne => ?_, .inl ⟨rfl, d8, (Value.slice vA vn vc).ownBlock.toList ++ R, ?_, fun k hk => List.mem_append_right _ hk, HB8.out, hp8, HG8.out, by rw [hc8]; exact Nat.le_refl _, HA5.out.alive, by rw [hn0, hn1]; exact hfin.2.2⟩⟩
            · rw [hfin.2.1 k hk hne, HO9.out k hne, HSM8.out k (by simp [hk]), HB4.out.block k (HRL.out k hk)]
            · rw [hn0, hn1]
              exact hfin.1
    · refine door_panic (rc := rc) rfl rfl ((S5 rc (by simp)).trans hr4) ?_
      obtain ⟨p1, p2⟩ := (DeadF.of_lay D5 S5 B5 HBE.out HGO.out hU).post (fun k hk => (HRL.out k hk)) (by rw [HRC.out]; exact Nat.le_refl _) HB4.out (.cells #[.int .i64 8] 63) (.int .i64 8)
      exact ⟨fun k hk _ => p1 k hk, .inr ⟨rfl, p2⟩⟩
end Go.Proofs.YtkoegbjnhoecoaaGreatDoor
