/- The reference's Put. · The reference's Files. · Commit of what is no map, or too long; the reference's May; Same. · On: a store on a new disk. · stetlaw05's fixed. · The reference's Map. · The reference's Put and Map, whose rows are the call's own. -/
import Derived.Test.YtkoegbjnhoecoaaGreatDoorH2
import Derived.Test.YtkoegbjnhoecoaaGreatDoorH5
import Derived.Test.YtkoegbjnhoecoaaGreatDoorH7
import Derived.Test.YtkoegbjnhoecoaaGreatDoorH6
namespace Go.Proofs.YtkoegbjnhoecoaaGreatDoor
open Go.RowKit Go.Lib Go.Sort Tx

theorem ofNat_int (n : Nat) (h : n < 256) : ((UInt8.ofNat n).toNat : Int) = (n : Int) := by
  have : (UInt8.ofNat n).toNat = n := by simp; omega
  rw [this]
set_option maxHeartbeats 2000000 in
set_option maxRecDepth 20000 in
theorem digits_any : ∀ (n : Nat) (w : World), n ≤ 1000000000 →
    Calls Tryz.prog 59 #[.int .i64 n] w fun e w' => e = .returned (vs (Lib.decDigits n)) ∧ Below w.heap.size w w' := by
  intro n
  induction n using Nat.strongRecOn with
  | _ n ih =>
    intro w hn
    have hm : Int.tmod (n : Int) 10 = ((n % 10 : Nat) : Int) := by rw [Int.tmod_eq_emod_of_nonneg (by omega)]; omega
    have hdv : Int.tdiv (n : Int) 10 = ((n / 10 : Nat) : Int) := by rw [Int.tdiv_eq_ediv_of_nonneg (by omega)]; omega
    have hob := one_byte w _ rfl (48 + ((n % 10 : Nat) : Int)) (UInt8.ofNat (48 + n % 10)) (by rw [ofNat_int _ (by omega)]; omega)
    have hr1 : (n % 10 : Nat) < 10 := Nat.mod_lt _ (by omega)
    have hr2 : (n : Int) % 10 = ((n % 10 : Nat) : Int) := by omega
    have hr3 : (n : Int) / 10 = ((n / 10 : Nat) : Int) := by omega
    by_cases h : n < 10
    · have h' : (n : Int) < 10 := by omega
      have HD : Hid (Lib.decDigits n = [UInt8.ofNat (48 + n % 10)]) := Lib.hid (by rw [Lib.decDigits, dif_pos h, Nat.mod_eq_of_lt h])
      clear ih hdv hr3
      generalize UInt8.ofNat (48 + n % 10) = c at *
      generalize n % 10 = r at *
      go_enter Tryz.func59, Tryz.ntmps59
      go_wp2_with fail
      go_ret
      exact ⟨by rw [HD.out]; rfl, (Below.refl _ _).alloc (Nat.le_refl _) _⟩
    · have h' : (10 : Int) ≤ (n : Int) := by omega
      have HD : Hid (Lib.decDigits n = Lib.decDigits (n / 10) ++ [UInt8.ofNat (48 + n % 10)]) := Lib.hid (by rw [Lib.decDigits, dif_neg h])
      have HI := Lib.hid (ih (n / 10) (by omega))
      have hl := dig_len (n / 10) (by omega)
      have hle : n / 10 ≤ 1000000000 := by omega
      clear ih
      generalize UInt8.ofNat (48 + n % 10) = c at *
      generalize n % 10 = r at *
      generalize n / 10 = q at *
      have hl2 : (bs (Lib.decDigits q)).size ≤ 10 := by rw [bs_size]; exact hl
      have HW : Hid (bs (Lib.decDigits n) = bs (Lib.decDigits q) ++ bs [c]) := Lib.hid (by rw [HD.out, bs_append])
      have hl3 : (bs [c]).size = 1 := by rw [bs_size]; rfl
      go_enter Tryz.func59, Tryz.ntmps59
      go_wp2_with fail
      refine (HI.out _ hle).mono ?_
      rintro e w1 ⟨rfl, hb⟩
      go_wp2_with fail
      go_ret
      exact ⟨by show _ = Ending.returned (.string (bs (Lib.decDigits n))); rw [HW.out]; rfl, below_via ((Below.refl _ _).alloc (Nat.le_refl _) _) hb⟩

set_option maxHeartbeats 2000000 in
theorem rPut_any (s : Bs) (w : World) (hs : s.length ≤ 1000000000) :
    Calls Tryz.prog 51 #[vs s] w fun e w' => e = .returned (vs (Wr.put s)) ∧ Below w.heap.size w w' := by
  have hz := bs_size s
  have HC := Lib.hid (digits_any s.length w hs)
  have hd := dig_len s.length hs
  have HP : Hid (Wr.put s = Lib.decDigits s.length ++ 58 :: (s ++ [44])) := Lib.hid rfl
  generalize Lib.decDigits s.length = d at *
  have hdz : (bs d).size = d.length := bs_size d
  obtain ⟨T1, hT1⟩ : ∃ T, T = d ++ [58] := ⟨_, rfl⟩
  obtain ⟨T2, hT2⟩ : ∃ T, T = T1 ++ s := ⟨_, rfl⟩
  obtain ⟨T3, hT3⟩ : ∃ T, T = T2 ++ [44] := ⟨_, rfl⟩
  have o1 : bs d ++ (⟨#[58]⟩ : ByteArray) = bs T1 := by show bs d ++ bs [58] = _; rw [hT1, bs_append]
  have o2 : bs T1 ++ bs s = bs T2 := by rw [hT2, bs_append]
  have o3 : bs T2 ++ (⟨#[44]⟩ : ByteArray) = bs T3 := by show bs T2 ++ bs [44] = _; rw [hT3, bs_append]
  have l1 : (bs T1).size = d.length + 1 := by rw [bs_size, hT1]; simp
  have l2 : (bs T2).size = d.length + 1 + s.length := by rw [bs_size, hT2, hT1]; simp; omega
  have HE : Hid (T3 = Wr.put s) := Lib.hid (by rw [HP.out, hT3, hT2, hT1]; simp)
  clear hT1 hT2 hT3 HP
  go_enter Tryz.func51, Tryz.ntmps51
  go_wp2_with fail
  refine HC.out.mono ?_
  rintro e w1 ⟨rfl, hb⟩
  go_wp2_with fail
  go_ret
  exact ⟨by rw [HE.out]; rfl, hb⟩
end Go.Proofs.YtkoegbjnhoecoaaGreatDoor
namespace Go.Proofs.YtkoegbjnhoecoaaGreatDoor
open Go.RowKit Tx

attribute [local go_sem ↓] Go.wp_at_zero Go.wp_at_succ
set_option maxRecDepth 100000 in
set_option maxHeartbeats 4000000 in
theorem rFiles_any (v : Value) (l : List Wr.F) (w : World) (hr : RowC 2 ff w w.heap.size v l) (hl : (Wr.files l).length ≤ 10000000) :
    Calls Tryz.prog 35 #[v] w fun e w' => e = .returned (vs (Wr.files l)) ∧ Below w.heap.size w w' := by
  obtain ⟨A, cap, rfl, h1, h2, h3⟩ := hr.shape
  have HC := Lib.hid h3
  clear h3 hr
  go_enter Tryz.func35, Tryz.ntmps35
  go_wp2_with fail
  go_loopw [3, 4] (fun s i wr => ∃ k : Nat, k ≤ l.length ∧ i = .int .i64 k ∧ s = .string (bs (Wr.files (l.take k))) ∧ Below w.heap.size w wr) (fun _ i _ => l.length - (RowKit.intOf i).toNat)
  case atStart => exact ⟨0, Nat.zero_le _, rfl, rfl, Below.refl _ _⟩
  case round =>
    obtain ⟨k, hk, rfl, rfl, hbel⟩ := hrel
    have hle := hbel.size
    by_cases hlt : k < l.length
    · have hi : (k : Int) < (l.length : Int) := by omega
      have hi0 : (0 : Int) ≤ (k : Int) := by omega
      obtain ⟨b, off, rfl, hbl, hc⟩ := HC.out (by rintro rfl; simp at hlt)
      obtain ⟨c0, c1⟩ := ff_cells (fun i u hu => (hbel.cell (p := ⟨b, off + k * 2 + i, none⟩) hbl).trans (hc k hlt i u hu))
      have hle1 := files_le l (k + 1)
      have hft := files_take l k hlt
      rw [hft] at hle1
      have HF := Lib.hid hft
      clear hft hc
      generalize l[k] = f at *
      obtain ⟨x, y⟩ := f
      simp only at c0 c1 HF hle1
      have HS := Lib.hid (S2.of c0 c1)
      have hpx : x.length ≤ (Wr.put x).length := by simp [Wr.put]; omega
      have hpy : y.length ≤ (Wr.put y).length := by simp [Wr.put]; omega
      have HX := Lib.hid (fun wx => rPut_any x wx)
      have HY := Lib.hid (fun wx => rPut_any y wx)
      generalize Wr.put x = px at *
      generalize Wr.put y = py at *
      obtain ⟨acc, hacc⟩ : ∃ acc, acc = Wr.files (l.take k) := ⟨_, rfl⟩
      rw [← hacc] at hle1 ⊢
      have HAC := Lib.hid hacc
      clear hacc
      obtain ⟨T1, hT1⟩ : ∃ T, T = px ++ py := ⟨_, rfl⟩
      obtain ⟨T2, hT2⟩ : ∃ T, T = acc ++ T1 := ⟨_, rfl⟩
      simp only [List.length_append] at hle1
      have o1 : bs px ++ bs py = bs T1 := by rw [hT1, bs_append]
      have o2 : bs acc ++ bs T1 = bs T2 := by rw [hT2, bs_append]
      have p1 : ¬ (9223372036854775807 < (bs px).size + (bs py).size) := by rw [bs_size, bs_size]; omega
      have p2 : ¬ (9223372036854775807 < (bs acc).size + (bs T1).size) := by rw [bs_size, bs_size, hT1]; simp only [List.length_append]; omega
      have HW : Hid (Wr.files (l.take (k + 1)) = T2) := Lib.hid (by rw [HF.out, ← HAC.out, hT2, hT1])
      have hx1 : x.length ≤ 1000000000 := by omega
      have hy1 : y.length ≤ 1000000000 := by omega
      clear hT1 hT2 hle1 hpx hpy c0 c1
      obtain ⟨wq, hwq⟩ : ∃ wq, wq = wr := ⟨_, rfl⟩
      go_upto_region 5 with fail
      go_region_held3 (fun wx => wx.cell? ⟨b, off + k * 2, none⟩ = some (.string (bs x)) ∧ wx.cell? ⟨b, off + k * 2 + 1, none⟩ = some (.string (bs y)) ∧ Below wr.heap.size wr wx) (first
          | (exact HS.out _ k1)
          | (exact HS.out _ (Below.refl _ _).drew)
          | (exact HS.out _ (Below.refl _ _))) (first
        | (go_at_call 51; have y9 := k1; (first | refine (HY.out _ hy1).mono ?_ | refine (HX.out _ hx1).mono ?_); rintro e x1 ⟨rfl, b1⟩
           have k1 : Below wr.heap.size wr x1 := below_via (S2.bel (by assumption)) b1
           clear b1; dsimp only)
        | (go_at_call 51; (first | refine (HX.out _ hx1).mono ?_ | refine (HY.out _ hy1).mono ?_); rintro e x1 ⟨rfl, b1⟩
           have k1 : Below wr.heap.size wr x1 := below_via (S2.bel (by assumption)) b1
           clear b1; dsimp only))
      all_goals (go_wp2_with fail)
      all_goals go_roundw
      all_goals first
        | (case rel => exact ⟨k + 1, by omega, by go_num, by rw [HW.out], below_via hbel k1⟩)
        | (case measure => simp [RowKit.intOf]; omega)
    · obtain rfl : k = l.length := by omega
      have HT : Hid (l.take l.length = l) := Lib.hid (List.take_length)
      go_wp2_with fail
      go_ret
      exact ⟨by rw [HT.out]; rfl, hbel⟩

end Go.Proofs.YtkoegbjnhoecoaaGreatDoor
namespace Go.Proofs.YtkoegbjnhoecoaaGreatDoor
open Go.RowKit Tx

theorem door0 {Rr : Ending → World → Prop} {a : Act} {w' : World} {rc : Nat} {x : Int} (hd : a.defers = []) (h4 : a.tmps[4]? = some (.pointer (some ⟨rc, 0, none⟩))) (hc : w'.heap[rc]? = some (.cells #[.int .i64 x] 31 (0, 0)))
    (h : Rr (.returned (.int .i64 x)) w') : bodyPostD Tryz.prog Tryz.f12 Rr Exit.ret a w' := by
  obtain ⟨tmps, defers⟩ := a
  simp only at hd h4
  subst hd
  have e0 : w'.cell? ⟨rc, 0, none⟩ = some (.int .i64 x) := by rw [Lib.cell_of_heap hc]; rfl
  refine (⟨.int .i64 x, ?_, h⟩ : ∃ v, (results Tryz.f12 tmps).run Tryz.prog w' = .ok v w' ∧ Rr (.returned v) w')
  simp [results, Tryz.f12, go_sem, h4, e0]
set_option maxRecDepth 100000 in
set_option maxHeartbeats 4000000 in
theorem commit_form {w : World} {sb : Nat} (lv : Value) (L : List Wr.F) (hL : RowC 2 ff w w.heap.size lv L) (hok : ∀ f ∈ L, FOk f) (hr : Wr.right L = false) :
    Calls Tryz.prog 12 #[.pointer (some ⟨sb, 0, none⟩), lv] w fun e w' => e = .returned (.int .i64 5) ∧ Below w.heap.size w w' := by
  obtain ⟨rc, hrc⟩ : ∃ rc, rc = w.heap.size := ⟨_, rfl⟩
  obtain ⟨W, hW⟩ : ∃ W, W = w.alloc (.cells #[.int .i64 0] 31) := ⟨_, rfl⟩
  have hbW : Below w.heap.size w W := by rw [hW]; exact (Below.refl _ _).alloc (Nat.le_refl _) _
  have hrW : W.heap[rc]? = some (.cells #[.int .i64 0] 31 (0, 0)) := by rw [hW, hrc]; exact heap_alloc_new _ _
  have HRT := Lib.hid (fRight_any lv L W (hL.step hbW) hok)
  rw [hr] at HRT
  have HBW := Lib.hid hbW
  have HRC := Lib.hid hrc
  obtain ⟨lA, lc, rfl, _⟩ := hL.shape
  clear hbW hL hok hr
  go_enter_defers Tryz.func12, Tryz.ntmps12
  go_wp2_with fail
  rw [← hW, ← hrc]
  clear hW hrc
  refine HRT.out.mono ?_
  rintro e w1 ⟨rfl, b1⟩
  have HB1 := Lib.hid (below_via HBW.out b1)
  have hr1 := (b1.block rc (lt_of_block hrW)).trans hrW
  have c0 : w1.cell? ⟨rc, 0, none⟩ = some (.int .i64 0) := by rw [Lib.cell_of_heap hr1]; rfl
  have f0 : w1.frozen? ⟨rc, 0, none⟩ = false := Lib.frozen_of_heap hr1 0
  clear b1 hrW
  go_wp2_with fail
  exact door0 rfl rfl (wr_cells_set (j := 0) hr1 (.int .i64 5)) ⟨rfl, HB1.out.setCell (p := ⟨rc, 0, none⟩) (by show w.heap.size ≤ rc; rw [HRC.out]; exact Nat.le_refl _) _⟩
set_option maxRecDepth 100000 in
set_option maxHeartbeats 4000000 in
theorem commit_full {B : Nat} {w0 w : World} {bd : Nat} {d : Dk.St} {sb : Nat} {h0 h1 : Sq.Head} {l : List Wr.F} {R : List Nat} (n : Nat) (lv : Value) (L : List Wr.F) (hS : StIn B w0 w bd d sb h0 h1 l R) (hL : RowC 2 ff w w.heap.size lv L) (hn : d.n = (n : Int)) (h4 : 4 ≤ n ∧ n ≤ 4096)
    (hr : Wr.right L = true) (hU : 64 * Sq.half n < (Wr.files L).length) (hok : ∀ f ∈ L, FOk f) (hg : ∀ wx, Below B w0 wx → Gl wx) :
    Calls Tryz.prog 12 #[.pointer (some ⟨sb, 0, none⟩), lv] w fun e w' => e = .returned (.int .i64 7) ∧ Below w.heap.size w w' := by
  obtain ⟨hD, hmem, fv, k1, _, _, _⟩ := hS
  obtain ⟨rc, hrc⟩ : ∃ rc, rc = w.heap.size := ⟨_, rfl⟩
  obtain ⟨W, hW⟩ : ∃ W, W = w.alloc (.cells #[.int .i64 0] 31) := ⟨_, rfl⟩
  have hbW : Below w.heap.size w W := by rw [hW]; exact (Below.refl _ _).alloc (Nat.le_refl _) _
  have hrW : W.heap[rc]? = some (.cells #[.int .i64 0] 31 (0, 0)) := by rw [hW, hrc]; exact heap_alloc_new _ _
  have hlen := files_len L hr
  have HRT := Lib.hid (fRight_any lv L W (hL.step hbW) hok)
  rw [hr] at HRT
  have HFI := Lib.hid (fun wx (hb : Below w.heap.size w wx) => wFiles_any lv L wx (hL.step hb) (by omega) (hg wx (hD.2.1.trans (hb.mono hD.1))))
  have HBW := Lib.hid hbW
  have HRC := Lib.hid hrc
  have HRZ := Lib.hid (roomZ_eq n h4)
  have HDD := Lib.hid hD
  have HSB := Lib.hid k1
  obtain ⟨lA, lc, rfl, _⟩ := hL.shape
  generalize Wr.files L = U at *
  clear hbW hL hok hr hg hD k1
  go_enter_defers Tryz.func12, Tryz.ntmps12
  go_wp2_with fail
  rw [← hW, ← hrc]
  clear hW hrc
  refine HRT.out.mono ?_
  rintro e w1 ⟨rfl, b1⟩
  have HB1 := Lib.hid (below_via HBW.out b1)
  have hr1 := (b1.block rc (lt_of_block hrW)).trans hrW
  clear b1 hrW
  go_wp2_with fail
  refine (HFI.out w1 HB1.out).mono ?_
  rintro e w2 ⟨rfl, b2⟩
  have HB2 := Lib.hid (below_via HB1.out b2)
  have hr2 := (b2.block rc (lt_of_block hr1)).trans hr1
  have hS2 := (HB2.out.block sb (lt_of_block HSB.out)).trans HSB.out
  obtain ⟨s0, _, _, _, _, _, _⟩ := sblk_cells hS2
  have HLEN := Lib.hid (hn ▸ len_in ((HDD.out.below HB2.out).1.to_in))
  have hroom := room_any (n : Int) w2
  rw [HRZ.out] at hroom
  have hzU := bs_size U
  have c0 : w2.cell? ⟨rc, 0, none⟩ = some (.int .i64 0) := by rw [Lib.cell_of_heap hr2]; rfl
  have f0 : w2.frozen? ⟨rc, 0, none⟩ = false := Lib.frozen_of_heap hr2 0
  obtain ⟨rm, hrm⟩ : ∃ rm, rm = 64 * Sq.half n := ⟨_, rfl⟩
  rw [← hrm] at hroom hU
  have hUi : (rm : Int) < (U.length : Int) := by omega
  clear b2 hr1 hrm
  go_wp2_with fail
  refine HLEN.out.mono ?_
  rintro e w3 ⟨rfl, rfl⟩
  go_wp2_with fail
  refine hroom.mono ?_
  rintro e w3 ⟨rfl, rfl⟩
  go_wp2_with fail
  exact door0 rfl rfl (wr_cells_set (j := 0) hr2 (.int .i64 7)) ⟨rfl, HB2.out.setCell (p := ⟨rc, 0, none⟩) (by show w.heap.size ≤ rc; rw [HRC.out]; exact Nat.le_refl _) _⟩
/-- What is wrong with a map. -/
def mayZ (L : List Wr.F) (n : Int) : Int := if Wr.right L = false then 5 else if roomZ n < ((Wr.files L).length : Int) then 7 else 0
set_option maxRecDepth 100000 in
set_option maxHeartbeats 4000000 in
theorem may_any (lv : Value) (L : List Wr.F) (n : Int) (w : World) (hL : RowC 2 ff w w.heap.size lv L) (hok : ∀ f ∈ L, FOk f) :
    Calls Tryz.prog 13 #[lv, .int .i64 n] w fun e w' => e = .returned (.int .i64 (mayZ L n)) ∧ Below w.heap.size w w' := by
  have HR := Lib.hid (rRight_any lv L w hL hok)
  have HL := Lib.hid hL
  obtain ⟨lA, lc, rfl, _⟩ := hL.shape
  clear hL hok
  unfold mayZ
  cases hr : Wr.right L with
  | false =>
    rw [hr] at HR
    rw [if_pos rfl]
    clear hr
    go_enter Tryz.func13, Tryz.ntmps13
    go_wp2_with fail
    refine HR.out.mono ?_
    rintro e w1 ⟨rfl, nq, h1⟩
    go_wp2_with fail
    go_ret
    exact ⟨rfl, below_of_drewN (a := w) (B := w.heap.size) nq⟩
  | true =>
    rw [hr] at HR
    rw [if_neg (by simp)]
    have hlen := files_len L hr
    have HF := Lib.hid (fun wx (hb : Below w.heap.size w wx) => rFiles_any _ L wx (HL.out.step hb) (by omega))
    have hz := bs_size (Wr.files L)
    generalize Wr.files L = U at *
    obtain ⟨rm, hrm⟩ : ∃ rm, rm = roomZ n := ⟨_, rfl⟩
    have HRM := Lib.hid (fun wx => rroom_any n wx)
    rw [← hrm] at HRM ⊢
    clear hr hrm
    by_cases hlt : rm < (U.length : Int)
    · rw [if_pos hlt]
      go_enter Tryz.func13, Tryz.ntmps13
      go_wp2_with fail
      refine HR.out.mono ?_
      rintro e w1 ⟨rfl, nq, h1⟩
      have b1 : Below w.heap.size w w1 := by rw [h1]; exact below_of_drewN (a := w) (B := w.heap.size) nq
      have HB1 := Lib.hid b1
      clear h1 b1
      go_wp2_with fail
      refine (HF.out w1 HB1.out).mono ?_
      rintro e w2 ⟨rfl, b2⟩
      have HB2 := Lib.hid (below_via HB1.out b2)
      clear b2
      go_wp2_with fail
      refine (HRM.out w2).mono ?_
      rintro e w3 ⟨rfl, rfl⟩
      go_wp2_with fail
      go_ret
      exact ⟨rfl, HB2.out⟩
    · rw [if_neg hlt]
      go_enter Tryz.func13, Tryz.ntmps13
      go_wp2_with fail
      refine HR.out.mono ?_
      rintro e w1 ⟨rfl, nq, h1⟩
      have b1 : Below w.heap.size w w1 := by rw [h1]; exact below_of_drewN (a := w) (B := w.heap.size) nq
      have HB1 := Lib.hid b1
      clear h1 b1
      go_wp2_with fail
      refine (HF.out w1 HB1.out).mono ?_
      rintro e w2 ⟨rfl, b2⟩
      have HB2 := Lib.hid (below_via HB1.out b2)
      clear b2
      go_wp2_with fail
      refine (HRM.out w2).mono ?_
      rintro e w3 ⟨rfl, rfl⟩
      go_wp2_with fail
      go_ret
      exact ⟨rfl, HB2.out⟩
set_option maxRecDepth 100000 in
set_option maxHeartbeats 4000000 in
theorem lsame_any {q : Bool} (v1 v2 : Value) (a b : List Wr.F) (hq : q = true ↔ a = b) (w : World) (h1 : RowC 2 ff w w.heap.size v1 a) (h2 : RowC 2 ff w w.heap.size v2 b) (_hn : a.length < 1000000) (hm : b.length < 1000000) :
    Calls Tryz.prog 14 #[v1, v2] w fun e w' => e = .returned (.bool q) ∧ ∃ n, w' = w.drewN n := by
  have HQ := Lib.hid hq
  have HNE : Hid (a ≠ b → q = false) := Lib.hid (fun h => by cases q with | false => rfl | true => exact absurd (hq.1 rfl) h)
  obtain ⟨A1, p1, rfl, _, _, z1⟩ := h1.shape
  obtain ⟨A2, p2, rfl, _, _, z2⟩ := h2.shape
  have Z1 := Lib.hid z1
  have Z2 := Lib.hid z2
  clear z1 z2 h1 h2 hq
  by_cases hl : a.length = b.length
  · have hl2 : ((a.length : Int) != (b.length : Int)) = false := by rw [hl]; simp
    have HL := Lib.hid hl
    clear hl
    go_enter Tryz.func14, Tryz.ntmps14
    go_wp2_with fail
    go_loopw [5] (fun i wr => ∃ j n : Nat, j ≤ a.length ∧ i = .int .i64 j ∧ a.take j = b.take j ∧ wr = w.drewN n) (fun i _ => a.length - (intOf i).toNat)
    case atStart => exact ⟨0, 0, Nat.zero_le _, rfl, rfl, rfl⟩
    case round =>
      obtain ⟨j, n2, hj, rfl, hjk, rfl⟩ := hrel
      have HJ := Lib.hid hjk
      clear hjk
      by_cases hjt : j < a.length
      · have hjt2 : j < b.length := by rw [← HL.out]; exact hjt
        obtain ⟨g3, o3, rfl, hg3, hc3⟩ := Z1.out (by intro e; rw [e] at hjt; simp at hjt)
        obtain ⟨g4, o4, rfl, hg4, hc4⟩ := Z2.out (by intro e; rw [e] at hjt2; simp at hjt2)
        obtain ⟨f1, f2⟩ := ff_cells (fun i u hu => hc3 j hjt i u hu)
        obtain ⟨f3, f4⟩ := ff_cells (fun i u hu => hc4 j hjt2 i u hu)
        have HC : Hid (a.take (j + 1) = a.take j ++ [a[j]]) := Lib.hid (List.take_succ_eq_append_getElem hjt)
        have HD : Hid (b.take (j + 1) = b.take j ++ [b[j]]) := Lib.hid (List.take_succ_eq_append_getElem hjt2)
        have HCX : Hid (a[j]? = some a[j]) := Lib.hid (List.getElem?_eq_getElem hjt)
        have HDX : Hid (b[j]? = some b[j]) := Lib.hid (List.getElem?_eq_getElem hjt2)
        clear hc3 hc4
        generalize a[j] = p at *
        generalize b[j] = s at *
        have m4 : (j : Int) < (a.length : Int) := by omega
        have m5 : (j : Int) < (b.length : Int) := by omega
        have m6 : (0 : Int) ≤ (j : Int) := by omega
        have heq := eqAtF p s
        by_cases hps : p = s
        · subst hps
          rw [eqF_self] at heq
          go_wp2_with fail
          go_quiet (fail)
          go_wp2_with fail
          go_roundw
          case rel => exact ⟨j + 1, _, by omega, by go_num, by rw [HC.out, HD.out, HJ.out], by first | rfl | exact World.drewN_drewN _ _ _⟩
          case measure => simp [intOf]; omega
        · rw [eqF_ne _ _ hps] at heq
          have HNO : Hid (q = false) := Lib.hid (HNE.out fun e => by subst e; rw [HCX.out] at HDX; exact hps (Option.some.inj HDX.out))
          clear hps
          go_wp2_with fail
          go_quiet (fail)
          go_wp2_with fail
          go_ret
          exact ⟨by rw [HNO.out]; rfl, _, by first | rfl | exact World.drewN_drewN _ _ _⟩
      · obtain rfl : j = a.length := by omega
        have hqt : q = true := HQ.out.2 (by have h9 := HJ.out; rw [List.take_length, HL.out, List.take_length] at h9; exact h9)
        have hjb : ¬ (a.length : Int) < (a.length : Int) := by omega
        subst hqt
        go_wp2_with fail
        go_ret
        exact ⟨rfl, _, rfl⟩
  · have hl2 : ((a.length : Int) != (b.length : Int)) = true := by simp; omega
    have hqf := HNE.out (fun e => hl (by rw [e]))
    subst hqf
    clear hl
    go_enter Tryz.func14, Tryz.ntmps14
    go_wp2_with fail
    go_ret
    exact ⟨rfl, 0, rfl⟩
end Go.Proofs.YtkoegbjnhoecoaaGreatDoor
namespace Go.Proofs.YtkoegbjnhoecoaaGreatDoor
open Go.RowKit Tx

theorem new_inR {B : Nat} {w0 w : World} (n : Int) (hn : 1 ≤ n ∧ n ≤ 4096) (hB : B ≤ w.heap.size) (hb : Below B w0 w) :
    Calls Tryz.prog 22 #[.int .i64 n] w fun e w' => ∃ bd, e = .returned (.tuple #[.pointer (some ⟨bd, 0, none⟩), .int .i64 0]) ∧ Below w.heap.size w w' ∧ w.heap.size ≤ bd ∧ Dk.InR B w0 w' bd (Dk.fresh n) [] := by
  refine (dNew_any n hn w).mono ?_
  rintro e w' ⟨rfl, h1, h2⟩
  refine ⟨_, rfl, h1, by omega, Nat.le_trans hB h1.size, hb.trans (h1.mono hB), by simp, _, h2, fun k hk => ⟨?_, by simp⟩⟩
  simp only [List.mem_cons, List.not_mem_nil, or_false] at hk
  rcases hk with rfl | rfl <;> omega
theorem parL_nil : parL [] = [] := by unfold parL; have : Wr.parse [] = .ok [] := by { unfold Wr.parse; rw [Wr.all_nil]; rfl }; rw [this]
def OnPost (B : Nat) (w0 w : World) (n : Nat) (e : Ending) (w' : World) : Prop :=
  ∃ sb bd R, e = .returned (.tuple #[.pointer (some ⟨sb, 0, none⟩), .pointer (some ⟨bd, 0, none⟩)]) ∧ StIn B w0 w' bd (Dk.fresh n) sb (0, 0) (0, 0) [] R ∧ Below w.heap.size w w' ∧ w.heap.size ≤ sb
set_option maxRecDepth 100000 in
set_option maxHeartbeats 4000000 in
theorem on_any {B : Nat} {w0 w : World} (n : Nat) (h4 : 4 ≤ n ∧ n ≤ 4096) (hB : B ≤ w.heap.size) (hb : Below B w0 w) (hg : ∀ wx, Below B w0 wx → Gl wx) :
    Calls Tryz.prog 10 #[.int .i64 n] w (OnPost B w0 w n) := by
  have HN := Lib.hid (new_inR (n : Int) (by omega) hB hb)
  go_enter Tryz.func10, Tryz.ntmps10
  go_wp2_with fail
  refine HN.out.mono ?_
  rintro e w1 ⟨bd, rfl, b1, _, hD⟩
  have HO := Lib.hid (open_any n (0, 0) (0, 0) [] hD rfl h4 rfl (Sq.Good.fresh n) (by simp) (by simp) (hg _ hD.2.1))
  have HB1 := Lib.hid b1
  clear hD b1
  go_wp2_with fail
  refine HO.out.mono ?_
  rintro e w2 ⟨sb, R, rfl, hS, hsb, _, b2⟩
  rw [parL_nil] at hS
  go_wp2_with fail
  go_ret2
  exact ⟨sb, bd, R, rfl, hS, below_via HB1.out b2, Nat.le_trans HB1.out.size hsb⟩
/-- A disk beside a store: its blocks, all of them new. -/
def Side (B : Nat) (w : World) (bd : Nat) (d : Dk.St) (F : List Nat) : Prop := Dk.Of w bd d F ∧ ∀ k ∈ F, B ≤ k
theorem Side.inR {B : Nat} {w0 w : World} {bd : Nat} {d : Dk.St} {F : List Nat} (h : Side B w bd d F) (hB : B ≤ w.heap.size) (hb : Below B w0 w) : Dk.InR B w0 w bd d [] := ⟨hB, hb, by simp, F, h.1, fun k hk => ⟨h.2 k hk, by simp⟩⟩
set_option maxRecDepth 100000 in
set_option maxHeartbeats 4000000 in
theorem on_small {w : World} (n : Int) (h4 : 1 ≤ n ∧ n < 4) :
    Calls Tryz.prog 10 #[.int .i64 n] w fun e w' => ∃ bd F, e = .returned (.tuple #[.pointer none, .pointer (some ⟨bd, 0, none⟩)]) ∧ Below w.heap.size w w' ∧ Side w.heap.size w' bd (Dk.fresh n) F := by
  have HN := Lib.hid (dNew_any n (by omega) w)
  go_enter Tryz.func10, Tryz.ntmps10
  go_wp2_with fail
  refine HN.out.mono ?_
  rintro e w1 ⟨rfl, b1, hD⟩
  have hS : Side w.heap.size w1 (w.heap.size + 1) (Dk.fresh n) [w.heap.size + 1, w.heap.size] := ⟨hD, fun k hk => by
    simp only [List.mem_cons, List.not_mem_nil, or_false] at hk
    rcases hk with rfl | rfl <;> omega⟩
  have HO := Lib.hid (open_small (hS.inR b1.size b1) h4.2)
  have HB1 := Lib.hid b1
  have HD := Lib.hid hS
  clear hD b1 hS
  go_wp2_with fail
  refine HO.out.mono ?_
  rintro e w2 ⟨rfl, rfl⟩
  go_wp2_with fail
  go_ret2
  exact ⟨_, _, rfl, HB1.out, HD.out⟩
/-- More blocks of one's own. -/
theorem StIn.more {B : Nat} {w0 w w' : World} {bd : Nat} {d : Dk.St} {sb : Nat} {h0 h1 : Sq.Head} {l : List Wr.F} {R : List Nat} (h : StIn B w0 w bd d sb h0 h1 l R) (hb : Below w.heap.size w w') (K : List Nat) (hK : ∀ k ∈ K, w.heap.size ≤ k ∧ k < w'.heap.size) : StIn B w0 w' bd d sb h0 h1 l (K ++ R) := by
  obtain ⟨fv, k1, k2, k3, k4⟩ := h.files
  refine ⟨h.disk.turn (Moved.of_below hb _) (fun k hk => ?_), List.mem_append_right _ h.mem, fv, (hb.block sb (lt_of_block k1)).trans k1, rowC_blk k2 hb.size (fun b _ hlt => hb.block b hlt), k3, fun k hk => ⟨List.mem_append_right _ (k4 k hk).1, (k4 k hk).2⟩⟩
  rcases List.mem_append.1 hk with hk | hk
  · exact ⟨.inr (hK k hk).1, (hK k hk).2⟩
  · exact ⟨.inl hk, Nat.lt_of_lt_of_le (h.disk.2.2.1 k hk).1 hb.size⟩
/-- The disk moves on, the store stays. -/
theorem StIn.disk_to {B : Nat} {w0 w w' : World} {bd : Nat} {d d' : Dk.St} {sb : Nat} {h0 h1 : Sq.Head} {l : List Wr.F} {R : List Nat} (h : StIn B w0 w bd d sb h0 h1 l R) (hI : Dk.InR B w0 w' bd d' R) (hS : Dk.Same R w w') : StIn B w0 w' bd d' sb h0 h1 l R := by
  obtain ⟨fv, k1, k2, k3, k4⟩ := h.files
  exact ⟨hI, h.mem, fv, (hS sb h.mem).trans k1, rowC_to k2 (fun b hb _ => ⟨(hI.2.2.1 b (k4 b hb).1).1, hS b (k4 b hb).1⟩), k3, k4⟩
theorem limit_inR {B : Nat} {w0 w : World} {a : Nat} {s : Dk.St} {R : List Nat} (n : Int) (hn : (Lit.int .i64 n).wf = true) (h : Dk.InR B w0 w a s R) :
    Calls Tryz.prog 19 #[.pointer (some ⟨a, 0, none⟩), .int .i64 n] w fun e w' => e = .returned (.tuple #[]) ∧ Dk.InR B w0 w' a { s with lim := some n } R ∧ Dk.Same R w w' := by
  obtain ⟨hB, hb, hR, F, hF, hF2⟩ := h
  exact (dLimit_any a s F n hn w hF).mono fun _ _ ⟨h1, h2⟩ => ⟨h1, Dk.InR.does hB hb hR hF2 h2⟩
/-- A row that was laid just now: one file. -/
theorem row_one (f : Wr.F) (w : World) : RowC 2 ff (w.alloc (.cells #[.string (bs f.1), .string (bs f.2)] 29)) (w.heap.size + 1) (.slice (some ⟨w.heap.size, 0, none⟩) 1 1) [f] := by
  refine ⟨1, by simp, by decide, .inr ⟨w.heap.size, 0, rfl, Nat.lt_succ_self _, fun j hj i u hu => ?_⟩⟩
  have : j = 0 := by simp at hj; omega
  subst this
  rw [cell_of_row _ w.heap.size _ _ 29 (0, 0) (heap_alloc_new w _)]
  simpa [ff] using hu
theorem rowK_one {B : Nat} {w : World} (f : Wr.F) (R : List Nat) (sb : Nat) (hsb : sb < w.heap.size) : RowK B ([w.heap.size] ++ R) sb (w.alloc (.cells #[.string (bs f.1), .string (bs f.2)] 29)) (.slice (some ⟨w.heap.size, 0, none⟩) 1 1) [f] := by
  refine ⟨by have := row_one f w; simpa using this, .inr ⟨_, _, _, rfl⟩, fun k hk => ?_⟩
  have : k = w.heap.size := by simpa [Value.ownBlock] using hk.symm
  subst this
  exact .inr ⟨by simp, by omega⟩
theorem rowK_nil {B : Nat} {R : List Nat} {sb : Nat} (w : World) : RowK B R sb w (.slice none 0 0) [] := ⟨row_none _ _, .inl rfl, fun k hk => by cases hk⟩
theorem gl_from {w : World} (h : Gl w) : ∀ wx, Below w.heap.size w wx → Gl wx := fun _ hb => h.below hb
/-- Heads within bounds. -/
structure HBd (G : Nat) (h0 h1 : Sq.Head) : Prop where
  a0 : h0.1 ≤ G
  a1 : h1.1 ≤ G
  b0 : h0.2 ≤ 200000
  b1 : h1.2 ≤ 200000
theorem HBd.next {G : Nat} {h0 h1 : Sq.Head} (h : HBd G h0 h1) (U : Bs) (hU : U.length ≤ 200000) : HBd (G + 1) (Sq.n0 h0 h1 U) (Sq.n1 h0 h1 U) := by
  obtain ⟨a, b, c, d⟩ := h
  unfold Sq.n0 Sq.n1 Sq.next
  by_cases e : Sq.now h0 h1 = 1
  · simp only [e, if_true]
    exact ⟨by simp only; omega, by omega, by simp only; omega, by omega⟩
  · simp only [e, if_false]
    exact ⟨by omega, by simp only; omega, by omega, by simp only; omega⟩
theorem Side.keep {B : Nat} {w w' : World} {bd : Nat} {d : Dk.St} {F : List Nat} (h : Side B w bd d F) (hk : ∀ k ∈ F, w'.heap[k]? = w.heap[k]?) : Side B w' bd d F := ⟨h.1.keep hk, h.2⟩
theorem crash_nil (d : Dk.St) : Dk.crash d [] = { d with lim := none, cnt := d.cnt + d.pend.length, pend := [] } := by
  unfold Dk.crash
  have : Dk.kept d.pend [] = [] := by cases d.pend <;> rfl
  rw [this]
  rfl
end Go.Proofs.YtkoegbjnhoecoaaGreatDoor
namespace Go.Proofs.YtkoegbjnhoecoaaGreatDoor
open Go.RowKit Tx

theorem put_one (x : Wr.Bs) (h : x.length < 10) : Wr.put x = UInt8.ofNat (48 + x.length) :: 58 :: (x ++ [44]) := by
  unfold Wr.put
  rw [Lib.decDigits, dif_pos h]
  rfl
theorem put_two (x : Wr.Bs) (h0 : 10 ≤ x.length) (h : x.length < 100) : Wr.put x = UInt8.ofNat (48 + x.length / 10) :: UInt8.ofNat (48 + x.length % 10) :: 58 :: (x ++ [44]) := by
  unfold Wr.put
  rw [Lib.decDigits, dif_neg (by omega), Lib.decDigits, dif_pos (by omega)]
  rfl
def tx : Bs := [48, 49, 50, 51, 52, 53, 54, 55, 56, 57, 48, 49, 50, 51, 52, 53, 54, 55, 56, 57, 48, 49, 50, 51, 52, 53, 54, 55, 56, 57, 48, 49, 50, 51, 52, 53, 54, 55, 56, 57, 48, 49, 50, 51, 52, 53, 54, 55, 56, 57]
def ty : Bs := tx ++ tx.take 10
theorem one_len (t : Bs) (h0 : 10 ≤ t.length) (h : t.length < 100) : (Wr.files [([97], t)]).length = t.length + 8 := by
  have e : Wr.files [([97], t)] = Wr.put [97] ++ Wr.put t := by simp [Wr.files]
  rw [e, put_one [97] (by simp), put_two t h0 h]
  simp
theorem right_x : Wr.right [([97], tx)] = true := by decide
theorem right_y : Wr.right [([97], ty)] = true := by decide
theorem right_A : Wr.right [([65], [])] = false := by decide
theorem FOk_one (f : Wr.F) (h : f.1.length ≤ 4000 ∧ f.2.length ≤ 4000) : ∀ g ∈ [f], FOk g := by
  intro g hg
  simp only [List.mem_singleton] at hg
  subst hg
  exact ⟨by simp only [maxLen]; omega, by simp only [maxLen]; omega⟩
theorem parL_files {L : List Wr.F} (h : Wr.right L = true) : parL (Wr.files L) = L := by unfold parL; rw [Wr.parse_files L h]
set_option maxRecDepth 100000 in
set_option maxHeartbeats 8000000 in
theorem fixed_any (w : World) (hg0 : Gl w) : Calls Tryz.prog 11 #[] w fun e w' => e = .returned (.bool true) ∧ Below w.heap.size w w' := by
  have hg := gl_from hg0
  have hHG := Lib.hid hg
  have htx : (bs tx).size = 50 := by rw [bs_size]; rfl
  have o1 : bs tx ++ (bs tx).extract 0 10 = bs ty := by
    rw [show (bs tx).extract 0 10 = bs (tx.take 10) from by rw [bs_extract']; simp]
    rw [bs_append]; rfl
  have HT : Hid ((⟨#[48, 49, 50, 51, 52, 53, 54, 55, 56, 57, 48, 49, 50, 51, 52, 53, 54, 55, 56, 57, 48, 49, 50, 51, 52, 53, 54, 55, 56, 57, 48, 49, 50, 51, 52, 53, 54, 55, 56, 57, 48, 49, 50, 51, 52, 53, 54, 55, 56, 57]⟩ : ByteArray) = bs tx) := Lib.hid rfl
  clear hg0
  go_enter Tryz.func11, Tryz.ntmps11
  go_wp2_with fail
  refine (on_any 4 (by omega) (Nat.le_refl _) (Below.refl _ _) hHG.out).mono ?_
  rintro e w1 ⟨sb, bd, R, rfl, S1, b1, _⟩
  have HS1 := Lib.hid S1
  clear S1
  go_wp2_with fail
  refine (on_small 3 (by omega)).mono ?_
  rintro e w2 ⟨b3, F3, rfl, b2, hD3⟩
  have HS2 := Lib.hid (HS1.out.more b2 F3 (fun k hk => ⟨hD3.2 k hk, hD3.1.lt k hk⟩))
  have HD3 := Lib.hid hD3
  have HF3 : Hid (∀ k ∈ F3, w.heap.size ≤ k ∧ k ≠ sb) := Lib.hid (fun k hk => ⟨by have := hD3.2 k hk; have := b1.size; omega, by have := hD3.2 k hk; have := HS1.out.disk.2.2.1 sb HS1.out.mem; omega⟩)
  clear b1 b2 hD3
  go_wp2_with fail
  rw [HT.out, show (⟨#[97]⟩ : ByteArray) = bs [97] from rfl]
  have HS3 := Lib.hid (HS2.out.more ((Below.refl _ _).alloc (Nat.le_refl _) (.cells #[.string (bs [97]), .string (bs tx)] 29)) [w2.heap.size] (fun k hk => by simp only [List.mem_singleton] at hk; subst hk; simp))
  have hsb2 : sb < w2.heap.size := (HS2.out.disk.2.2.1 sb HS2.out.mem).1
  refine (commit_any 4 [] _ [([97], tx)] HS3.out (rowK_one ([97], tx) (F3 ++ R) sb hsb2) rfl (by omega) rfl (by simp [Dk.fresh]) (Sq.Good.fresh 4) (by simp) (by simp) right_x (by rw [one_len tx (by decide) (by decide)]; decide) (FOk_one _ (by decide)) hHG.out).mono ?_
  rintro e w4 ⟨hsame, ⟨rfl, d4, R4, S4, hsub, base4, hp4, hG4, hc4, _⟩ | ⟨_, d4, _, _, _, _, hx, _⟩⟩
  case inr => exact absurd rfl hx
  have hb4 := (show HBd 0 (0, 0) (0, 0) from ⟨by simp, by simp, by simp, by simp⟩).next (Wr.files [([97], tx)]) (by rw [one_len tx (by decide) (by decide)]; decide)
  have HF4 : Hid (Side w.heap.size w4 b3 (Dk.fresh 3) F3) := Lib.hid (Side.keep (w := w2) ⟨HD3.out.1, fun k hk => (HF3.out k hk).1⟩ (fun k hk => by
    rw [hsame k (by simp [hk]) (HF3.out k hk).2, Below.heap_alloc _ _ _ (HD3.out.1.lt k hk)]))
  have HFR : Hid (∀ k ∈ F3, k ∈ R4) := Lib.hid (fun k hk => hsub k (by simp [hk]))
  have HS4 := Lib.hid S4
  have hn4 : d4.n = ((4 : Nat) : Int) := base4.n
  have hl4 : d4.lim = none := base4.live rfl
  have hcl : d4.cnt ≤ 2 := by
    have e1 : Sq.cnt (Wr.files [([97], tx)]) = 1 := by unfold Sq.cnt; rw [one_len tx (by decide) (by decide)]; rfl
    rw [e1] at hc4
    exact hc4
  have HG4 := Lib.hid hG4
  have HBD := Lib.hid hb4
  generalize Sq.n0 (0, 0) (0, 0) (Wr.files [([97], tx)]) = g0 at *
  generalize Sq.n1 (0, 0) (0, 0) (Wr.files [([97], tx)]) = g1 at *
  clear S4 hsame hsub base4 hG4 hc4 hb4 hsb2
  go_wp2_with fail
  rw [show (⟨#[97]⟩ : ByteArray) = bs [97] from rfl]
  have hsb4 : sb < w4.heap.size := (HS4.out.disk.2.2.1 sb HS4.out.mem).1
  have ba4 := (Below.refl w4.heap.size w4).alloc (Nat.le_refl _) (.cells #[.string (bs [97]), .string (bs ty)] 29)
  refine (commit_full 4 _ [([97], ty)] (HS4.out.below ba4) (rowK_one (B := w.heap.size) ([97], ty) R4 sb hsb4).1 hn4 (by omega) right_y (by rw [one_len ty (by decide) (by decide)]; decide) (FOk_one _ (by decide)) hHG.out).mono ?_
  rintro e w5 ⟨rfl, b5⟩
  have HB5 := Lib.hid (ba4.trans (b5.mono ba4.size))
  have HS5 := Lib.hid (HS4.out.below HB5.out)
  clear ba4 b5 hsb4
  go_wp2_with fail
  rw [show (⟨#[65]⟩ : ByteArray) = bs [65] from rfl, show (⟨#[]⟩ : ByteArray) = bs [] from rfl]
  have hsb5 : sb < w5.heap.size := (HS5.out.disk.2.2.1 sb HS5.out.mem).1
  have ba5 := (Below.refl w5.heap.size w5).alloc (Nat.le_refl _) (.cells #[.string (bs [65]), .string (bs [])] 29)
  refine (commit_form _ [([65], [])] (rowK_one (B := w.heap.size) ([65], []) R4 sb hsb5).1 (FOk_one _ (by decide)) right_A).mono ?_
  rintro e w6 ⟨rfl, b6⟩
  have HB6 := Lib.hid (HB5.out.trans ((ba5.trans (b6.mono ba5.size)).mono HB5.out.size))
  have HS6 := Lib.hid (HS4.out.below HB6.out)
  have HF6 : Hid (Side w.heap.size w6 b3 (Dk.fresh 3) F3) := Lib.hid (Side.keep HF4.out (fun k hk => HB6.out.block k (HF4.out.1.lt k hk)))
  clear ba5 b6 hsb5
  go_wp2_with fail
  refine (open_small (HF6.out.inR HS6.out.disk.1 HS6.out.disk.2.1) (by simp [Dk.fresh])).mono ?_
  rintro e w7 ⟨rfl, rfl⟩
  go_wp2_with fail
  refine (limit_inR 0 (by decide) HS6.out.disk).mono ?_
  rintro e w8 ⟨rfl, D8, S8⟩
  have HS8 := Lib.hid (HS6.out.disk_to D8 S8)
  clear D8 S8
  go_wp2_with fail
  refine (commit_any 4 (Wr.files [([97], tx)]) _ [] HS8.out (rowK_nil _) hn4 (by omega) hp4 (by simp only; omega) HG4.out (by have := HBD.out.a0; have := HBD.out.b0; omega) (by have := HBD.out.a1; have := HBD.out.b1; omega) (by decide) (by simp [Wr.files]) (by simp) hHG.out).mono ?_
  rintro e w9 ⟨_, ⟨_, _, _, _, _, _, _, _, _, hx⟩ | ⟨rfl, d9, D9, base9, _, hc9, _, hG9, hp9⟩⟩
  case inl => simp [Dk.dead] at hx
  have hp9' : d9.pend = [] := hp9 (by simp [Dk.dead])
  have hc9' : d9.pend.length + d9.cnt < 1000000 := by
    have : Sq.cnt (Wr.files []) = 0 := by simp [Wr.files, Sq.cnt]
    rw [this] at hc9
    simp only at hc9
    omega
  have hn9 : d9.n = ((4 : Nat) : Int) := base9.n.trans hn4
  have HD9 := Lib.hid D9
  have HG9 := Lib.hid hG9
  clear hc9 base9 hG9 D9 hp9
  go_wp2_with fail
  refine (crash_inR _ [] HD9.out hc9' ⟨0, by simp, by decide, .inl ⟨rfl, none, rfl⟩⟩).mono ?_
  rintro e w10 ⟨rfl, D10, _⟩
  rw [crash_nil] at D10
  have HD10 := Lib.hid D10
  clear D10
  go_wp2_with fail
  refine (open_any 4 g0 g1 (Wr.files [([97], tx)]) HD10.out hn9 (by omega) rfl HG9.out (by have := HBD.out.a0; have := HBD.out.b0; omega) (by have := HBD.out.a1; have := HBD.out.b1; omega) (hHG.out _ HD10.out.2.1)).mono ?_
  rintro e w11 ⟨st, R11, rfl, S11, _, _, _⟩
  rw [parL_files right_x] at S11
  have HS11 := Lib.hid S11
  clear S11
  go_wp2_with fail
  refine (load_any HS11.out (by simp)).mono ?_
  rintro e w12 ⟨v12, rfl, O12, b12⟩
  have HO12 := Lib.hid O12
  have HB12 := Lib.hid (HS11.out.disk.2.1.trans (b12.mono HS11.out.disk.1))
  have hB12 : w.heap.size ≤ w12.heap.size := HB12.out.size
  obtain ⟨vA, vc, rfl, _⟩ := (O12.rowC ff_length).shape
  clear O12 b12
  go_wp2_with fail
  rw [show (⟨#[97]⟩ : ByteArray) = bs [97] from rfl]
  have ba12 := (Below.refl w12.heap.size w12).alloc (Nat.le_refl _) (.cells #[.string (bs [97]), .string (bs tx)] 29)
  refine (lsame_any (q := true) _ _ [([97], tx)] [([97], tx)] (by simp) _ ((HO12.out.below ba12).rowC ff_length) (by have := row_one ([97], tx) w12; simpa using this) (by simp) (by simp)).mono ?_
  rintro e w13 ⟨rfl, nq, h13⟩
  have HB13 := Lib.hid (show Below w.heap.size w w13 by rw [h13]; exact (HB12.out.trans (ba12.mono hB12)).trans ((below_of_drewN (a := w12.alloc (.cells #[.string (bs [97]), .string (bs tx)] 29)) (B := w.heap.size) nq)))
  clear h13 ba12
  have r4 : roomZ 4 = 64 := by decide
  have r7 : roomZ 7 = 128 := by decide
  have r3 : roomZ 3 = 0 := by decide
  go_wp2_with fail
  refine (room_any 4 w13).mono ?_
  rintro e w14 ⟨rfl, rfl⟩
  rw [r4]
  go_wp2_with fail
  refine (room_any 7 w13).mono ?_
  rintro e w14 ⟨rfl, rfl⟩
  rw [r7]
  go_wp2_with fail
  refine (room_any 3 w13).mono ?_
  rintro e w14 ⟨rfl, rfl⟩
  rw [r3]
  go_wp2_with fail
  go_ret
  exact ⟨rfl, HB13.out⟩
end Go.Proofs.YtkoegbjnhoecoaaGreatDoor
namespace Go.Proofs.YtkoegbjnhoecoaaGreatDoor
open Go.RowKit Tx

theorem map_step (l : List Wr.F) (b k : Nat) (h : k < l.length) : Wr.mapF l (k + 1) b = if putE (Wr.mapF l k b) (l[k].1, l[k].2.take b) = 0 then putL (Wr.mapF l k b) (l[k].1, l[k].2.take b) else Wr.mapF l k b := by
  unfold Wr.mapF
  rw [List.take_succ_eq_append_getElem h, List.foldl_append]
  simp only [List.foldl_cons, List.foldl_nil]
  generalize (l.take k).foldl (Wr.mapS b) [] = M
  unfold Wr.mapS putE putL
  cases hp : Wr.putF M (l[k].1, l[k].2.take b) with
  | ok m => simp
  | error e =>
    have : e ≠ 0 := by
      unfold Wr.putF at hp
      split at hp
      · injection hp with hp; omega
      · split at hp
        · injection hp with hp; omega
        · cases hp
    simp [this]
theorem map_end (l : List Wr.F) (b m : Nat) (h : l.length ≤ m) : Wr.mapF l m b = Wr.mapF l l.length b := by
  unfold Wr.mapF
  rw [List.take_of_length_le h, List.take_length]
theorem mapF_le (l : List Wr.F) (n b : Nat) : (Wr.mapF l n b).length ≤ 32 := (Wr.mapF_right l n b).most

set_option maxRecDepth 100000 in
set_option maxHeartbeats 4000000 in
theorem mapF_any (v : Value) (l : List Wr.F) (most bytes : Nat) (w : World) (hr : RowC 2 ff w w.heap.size v l) (ok : ∀ f ∈ l, FOk f) (hm : most ≤ 1000) (hby : bytes ≤ 100000) :
    Calls Tryz.prog 16 #[v, .int .i64 most, .int .i64 bytes] w fun e w' => ∃ o, e = .returned o ∧ RowC 2 ff w' w'.heap.size o (Wr.mapF l most bytes) ∧ (∀ k, o.ownBlock = some k → w.heap.size ≤ k) ∧ Below w.heap.size w w' := by
  obtain ⟨A, cap, rfl, c1, c2, c3⟩ := hr.shape
  have HC := Lib.hid c3
  have OK := Lib.hid ok
  clear c3 ok hr
  have hmade := (OwnC.made 29 2 ff w.heap.size w (Nat.le_refl _)).rowC ff_length
  go_enter Tryz.func16, Tryz.ntmps16
  go_wp2_with fail
  go_loopw [7, 8] (fun o i wr => ∃ k : Nat, k ≤ most ∧ k ≤ l.length ∧ i = .int .i64 k ∧ RowC 2 ff wr wr.heap.size o (Wr.mapF l k bytes) ∧ (∀ k, o.ownBlock = some k → w.heap.size ≤ k) ∧ Below w.heap.size w wr) (fun _ i _ => most - (RowKit.intOf i).toNat)
  case atStart => exact ⟨0, Nat.zero_le _, Nat.zero_le _, rfl, hmade, fun k h => by simp [Value.ownBlock] at h; omega, (Below.refl _ _).alloc (Nat.le_refl _) _⟩
  case round =>
    clear hmade
    obtain ⟨k, hkm, hk, rfl, ho, hnw, hbel⟩ := hrel
    have HNW := Lib.hid hnw
    clear hnw
    have hle := hbel.size
    have hol := mapF_le l k bytes
    obtain ⟨A1, cap1, rfl, _⟩ := ho.shape
    have HO := Lib.hid ho
    clear ho
    by_cases hlt : k < l.length
    · have hi : (k : Int) < (l.length : Int) := by omega
      have hi0 : (0 : Int) ≤ (k : Int) := by omega
      by_cases hlm : k < most
      · have hi2 : (k : Int) < (most : Int) := by omega
        obtain ⟨b, off, rfl, hbl, hc⟩ := HC.out (by rintro rfl; simp at hlt)
        obtain ⟨d0, d1⟩ := ff_cells (fun i u hu => (hbel.cell (p := ⟨b, off + k * 2 + i, none⟩) hbl).trans (hc k hlt i u hu))
        have hok := OK.out _ (List.getElem_mem hlt)
        have hst := map_step l bytes k hlt
        clear hc
        generalize l[k] = f at *
        obtain ⟨x, y⟩ := f
        obtain ⟨ok1, ok2⟩ := hok
        simp only at ok1 ok2 d0 d1 hst
        have hyx := xext_minr y bytes
        have hys := bs_size y
        have hox := ok1
        simp only [maxLen] at ok2
        have j1 : (0 : Int) ≤ min ((bs y).size : Int) (bytes : Int) := by omega
        have j2 : min ((bs y).size : Int) (bytes : Int) ≤ ((bs y).size : Int) := by omega
        have hy2 : (y.take bytes).length ≤ maxLen := by simp only [maxLen]; simp; omega
        generalize y.take bytes = z at *
        generalize Wr.mapF l k bytes = M at *
        have hb1 : Below wr.heap.size wr (wr.alloc (.cells #[.string (bs x), .string (bs z)] 29)) := (Below.refl _ _).alloc (Nat.le_refl _) _
        have HP := Lib.hid (putF_any _ M x z _ (HO.out.step hb1) (by omega) hox hy2)
        have HB1 := Lib.hid (below_via hbel hb1)
        have HB1s := hb1.size
        have HST := Lib.hid hst
        have HO1 := Lib.hid (HO.out.step hb1)
        clear hst hb1 ok1 hox hy2 hys
        go_wp2_with fail
        refine HP.out.mono ?_
        rintro e w3 ⟨o, rfl, ho, hnw, hb3⟩
        have HN3 := Lib.hid (fun k h => Nat.le_trans hle (Nat.le_trans HB1s (hnw k h)))
        clear hnw
        have hb4 := below_via HB1.out hb3
        by_cases he : putE M (x, z) = 0
        · have HS : Hid (Wr.mapF l (k + 1) bytes = putL M (x, z)) := Lib.hid (by rw [HST.out, if_pos he])
          rw [he]
          have HOO := Lib.hid ho
          clear ho he
          go_wp2_with fail
          go_roundw
          case rel => exact ⟨k + 1, by omega, by omega, by go_num, by rw [HS.out]; exact HOO.out, HN3.out, hb4⟩
          case measure => simp [RowKit.intOf]; omega
        · have HS : Hid (Wr.mapF l (k + 1) bytes = M) := Lib.hid (by rw [HST.out, if_neg he])
          have HO3 := Lib.hid (HO1.out.step hb3)
          generalize putE M (x, z) = pe at *
          have hpe : ((pe : Int) == 0) = false := by rw [beq_eq_false_iff_ne]; omega
          clear ho he
          go_wp2_with fail
          go_roundw
          case rel => exact ⟨k + 1, by omega, by omega, by go_num, by rw [HS.out]; exact HO3.out, HNW.out, hb4⟩
          case measure => simp [RowKit.intOf]; omega
      · obtain rfl : k = most := by omega
        have q1 : decide ((k : Int) < (k : Int)) = false := decide_eq_false (by omega)
        go_wp2_with fail
        go_ret
        exact ⟨_, rfl, HO.out, HNW.out, hbel⟩
    · have hi : (l.length : Int) ≤ (k : Int) := by omega
      have HE : Hid (Wr.mapF l most bytes = Wr.mapF l k bytes) := Lib.hid (by rw [map_end l bytes most (by omega)]; congr 1; omega)
      go_wp2_with fail
      go_ret
      exact ⟨_, rfl, by rw [HE.out]; exact HO.out, HNW.out, hbel⟩
end Go.Proofs.YtkoegbjnhoecoaaGreatDoor
namespace Go.Proofs.YtkoegbjnhoecoaaGreatDoor
open Go.RowKit Tx

set_option maxRecDepth 100000 in
set_option maxHeartbeats 4000000 in
theorem putF_own (v : Value) (l : List Wr.F) (n t : Bs) (w : World) (hr : RowC 2 ff w w.heap.size v l) (hl : l.length < 100000) (hn : n.length ≤ maxLen) (ht : t.length ≤ maxLen) :
    Calls Tryz.prog 36 #[v, .agg #[vs n, vs t]] w fun e w' => ∃ o, e = .returned (.tuple #[o, .int .i64 (putE l (n, t))]) ∧ OwnC 29 2 ff w.heap.size w' o (putL l (n, t)) ∧ Below w.heap.size w w' := by
  obtain ⟨A, cap, rfl, c1, c2, c3⟩ := hr.shape
  have hm1 := hn
  have hzt := bs_size t
  simp only [maxLen] at hn ht
  by_cases hnm : Wr.nameOk n = true
  case neg =>
    have hnm : Wr.nameOk n = false := by simpa using hnm
    have HE : Hid (putE l (n, t) = 2 ∧ putL l (n, t) = []) := Lib.hid (by unfold putE putL Wr.putF; rw [if_pos hnm]; exact ⟨rfl, rfl⟩)
    have HN := Lib.hid (fun w => rName_b n w hm1 hnm)
    clear hr c3 hnm
    go_enter Tryz.func36, Tryz.ntmps36
    go_wp2_with fail
    refine (HN.out _).mono ?_
    rintro e w1 ⟨rfl, rfl⟩
    go_wp2_with fail
    go_ret2
    exact ⟨.slice none 0 0, by rw [HE.out.1]; rfl, by rw [HE.out.2]; exact OwnC.nil _ _ _ _ _, (Below.refl _ _).alloc (Nat.le_refl _) _⟩
  case pos =>
    have HN := Lib.hid (fun w => rName_b n w hm1 hnm)
    have hb1 : Below w.heap.size w (w.alloc (.cells #[.string (bs n), .string (bs t)] 29)) := (Below.refl _ _).alloc (Nat.le_refl _) _
    obtain ⟨d0, d1⟩ := box_cells (w := w) (x := n) (y := t)
    have HRL := Lib.hid (hr.step hb1)
    have HNM := Lib.hid hnm
    clear hr c3 hnm
    obtain ⟨g0, hg0⟩ : ∃ g, g = w.heap.size := ⟨_, rfl⟩
    go_enter Tryz.func36, Tryz.ntmps36
    rw [← hg0] at d0 d1
    have HG0 := Lib.hid hg0
    go_wp2_with fail
    rw [← hg0]
    clear hg0
    generalize hwb : w.alloc (.cells #[.string (bs n), .string (bs t)] 29) = wb at *
    clear hwb
    refine (HN.out _).mono ?_
    rintro e w1 ⟨rfl, rfl⟩
    go_wp2_with fail
    refine (drop_any _ l n wb HRL.out (by omega)).mono ?_
    rintro e w2 ⟨o, rfl, ho, ⟨g, c, rfl⟩, hb2⟩
    have hle2 := hb2.size
    have hg0l : g0 < wb.heap.size := World.block_lt_of_cell? wb ⟨g0, 0, none⟩ (by rw [d0])
    have e0 := (hb2.cell (p := ⟨g0, 0, none⟩) hg0l).trans d0
    have e1 := (hb2.cell (p := ⟨g0, 1, none⟩) hg0l).trans d1
    have hgl2 : g0 < w2.heap.size := Nat.lt_of_lt_of_le hg0l hle2
    have HB2 := Lib.hid (below_via hb1 hb2)
    have hdl := dropF_le l n
    have HPF : Hid (Wr.putF l (n, t) = if 4000 < t.length ∨ (¬ (Wr.dropF l n).length < l.length ∧ 32 ≤ l.length) then .error 3 else .ok (Wr.ins (Wr.dropF l n) (n, t))) := Lib.hid (by
      unfold Wr.putF
      rw [if_neg (by simpa using HNM.out)])
    have HD := Lib.hid (ho.rowC ff_length)
    clear ho hb1 hb2 d0 d1 HN HRL HNM
    generalize Wr.dropF l n = D at *
    obtain ⟨BC, hBC⟩ : ∃ BC : Bool, BC = decide (4000 < t.length ∨ (¬ D.length < l.length ∧ 32 ≤ l.length)) := ⟨_, rfl⟩
    have HBC := Lib.hid hBC
    clear hBC
    go_upto_region 4 with fail
    go_cut [34] (fun b wx => b = .bool BC ∧ wx = w2)
    case first =>
      by_cases h1 : 4000 < t.length
      · have HT : Hid (BC = true) := Lib.hid (by rw [HBC.out]; exact decide_eq_true (.inl h1))
        have q1 : decide ((4000 : Int) < ((bs t).size : Int)) = true := decide_eq_true (by omega)
        have q2 : decide ((4000 : Int) < (t.length : Int)) = true := decide_eq_true (by omega)
        have q3 : decide (4000 < t.length) = true := decide_eq_true h1
        go_wp2_with fail
        go_meet
        exact ⟨by rw [HT.out], rfl⟩
      · have q1 : decide ((4000 : Int) < ((bs t).size : Int)) = false := decide_eq_false (by omega)
        have q2 : decide ((4000 : Int) < (t.length : Int)) = false := decide_eq_false (by omega)
        have q3 : decide (4000 < t.length) = false := decide_eq_false h1
        by_cases h2 : D.length < l.length
        · have HT : Hid (BC = false) := Lib.hid (by rw [HBC.out]; exact decide_eq_false (by omega))
          have r1 : decide (D.length < l.length) = true := decide_eq_true h2
          go_wp2_with fail
          go_meet
          exact ⟨by rw [HT.out], rfl⟩
        · have r1 : decide (D.length < l.length) = false := decide_eq_false h2
          by_cases h3 : 32 ≤ l.length
          · have HT : Hid (BC = true) := Lib.hid (by rw [HBC.out]; exact decide_eq_true (by omega))
            have s1 : decide ((32 : Int) ≤ (l.length : Int)) = true := decide_eq_true (by omega)
            have s2 : decide (32 ≤ l.length) = true := decide_eq_true h3
            go_wp2_with fail
            go_meet
            exact ⟨by rw [HT.out], rfl⟩
          · have HT : Hid (BC = false) := Lib.hid (by rw [HBC.out]; exact decide_eq_false (by omega))
            have s1 : decide ((32 : Int) ≤ (l.length : Int)) = false := decide_eq_false (by omega)
            have s2 : decide (32 ≤ l.length) = false := decide_eq_false h3
            go_wp2_with fail
            go_meet
            exact ⟨by rw [HT.out], rfl⟩
    case rest =>
      obtain ⟨rfl, hcw⟩ := hcut
      have hcw' := hcw.symm
      subst hcw'
      clear hcw
      cases BC with
      | true =>
        have hbc := of_decide_eq_true HBC.out.symm
        have HE : Hid (putE l (n, t) = 3 ∧ putL l (n, t) = []) := Lib.hid (by unfold putE putL; rw [HPF.out, if_pos hbc]; exact ⟨rfl, rfl⟩)
        clear hbc
        go_wp2_with fail
        go_ret2
        exact ⟨.slice none 0 0, by rw [HE.out.1]; rfl, by rw [HE.out.2]; exact OwnC.nil _ _ _ _ _, HB2.out⟩
      | false =>
        have hbc := of_decide_eq_false HBC.out.symm
        have HE : Hid (putE l (n, t) = 0 ∧ putL l (n, t) = Wr.ins D (n, t)) := Lib.hid (by unfold putE putL; rw [HPF.out, if_neg hbc]; exact ⟨rfl, rfl⟩)
        clear hbc HPF HBC
        obtain ⟨A', c', hsh, m1, m2, m3⟩ := HD.out.shape
        injection hsh with hsh1 hsh2 hsh3
        subst hsh1 hsh3
        have HDC := Lib.hid m3
        have hmade := OwnC.made 29 2 ff w2.heap.size w2 (Nat.le_refl _)
        have E0 := Lib.hid e0
        have E1 := Lib.hid e1
        clear m3 hsh2
        obtain ⟨B2, hB2⟩ : ∃ B, B = w2.heap.size := ⟨_, rfl⟩
        go_upto_block 0 with fail
        go_cut [8] (fun o wx => ∃ k, k ≤ D.length ∧ D.take k = D.takeWhile (fun g => Wr.less g.1 n) ∧ D.drop k = D.dropWhile (fun g => Wr.less g.1 n) ∧ OwnC 29 2 ff w2.heap.size wx o (D.take k) ∧ Som o k ∧ Below w2.heap.size w2 wx)
        case first =>
          go_wp2_with fail
          go_loopw [8, 9] (fun o i wr => ∃ k : Nat, k ≤ D.length ∧ i = .int .i64 k ∧ (∀ j, ∀ h : j < D.length, j < k → Wr.less D[j].1 n = true) ∧ OwnC 29 2 ff w2.heap.size wr o (D.take k) ∧ Som o k ∧ Below w2.heap.size w2 wr) (fun _ i _ => D.length - (RowKit.intOf i).toNat)
          case atStart => exact ⟨0, Nat.zero_le _, rfl, fun j h hj => absurd hj (Nat.not_lt_zero _), hmade, ⟨_, _, rfl⟩, (Below.refl _ _).alloc (Nat.le_refl _) _⟩
          case round =>
            clear hmade
            obtain ⟨k, hk, rfl, hls, ho, hsom, hbel⟩ := hrel
            have hle := hbel.size
            have f0 := (hbel.cell (p := ⟨g0, 0, none⟩) hgl2).trans E0.out
            have HLS := Lib.hid hls
            have HO := Lib.hid ho
            have HSM := Lib.hid hsom
            clear hls ho hsom
            by_cases hlt : k < D.length
            · obtain ⟨b, off, hbo, hbl, hc⟩ := HDC.out (by rintro rfl; simp at hlt)
              injection hbo with hbo
              injection hbo with hbo1 hbo2
              subst hbo1 hbo2
              obtain ⟨k0, k1⟩ := ff_cells (fun i u hu => (hbel.cell (p := ⟨g, 0 + k * 2 + i, none⟩) hbl).trans (hc k hlt i u hu))
              have hi : (k : Int) < (D.length : Int) := by omega
              have hi0 : (0 : Int) ≤ (k : Int) := by omega
              have HTS := Lib.hid (tw_step D n k hlt HLS.out)
              have HTK : Hid (D.take (k + 1) = D.take k ++ [D[k]]) := Lib.hid (List.take_succ_eq_append_getElem hlt)
              have HNX : Hid (Wr.less D[k].1 n = true → ∀ j, ∀ h : j < D.length, j < k + 1 → Wr.less D[j].1 n = true) := Lib.hid (fun hx j h hj => by
                by_cases hjk : j = k
                · subst hjk; exact hx
                · exact HLS.out j h (by omega))
              clear hc
              generalize D[k] = q at *
              obtain ⟨x, y⟩ := q
              simp only [Nat.zero_add] at k0 k1 HTS HTK HNX
              have hb0 : Op.bytesLess (bs x).toList (bs n).toList = Wr.less x n := by rw [toListB, toListB]
              have hkc : k < D.length := hlt
              by_cases hxl : Wr.less x n = true
              · rw [hxl] at hb0
                have HN2 := Lib.hid (HNX.out hxl)
                have hol : (D.take k).length < 1000000 := by simp; omega
                clear hxl
                go_wp2_with fail
                go_quiet (fail)
                go_wp2_with (at_builtin; refine app_file (w0 := World.drewN _ _) rfl (.tmp 52) (.tmp 57) rfl w2.heap.size _ (D.take k) (x, y) rfl wr.heap.size rfl rfl HO.out hle hol ?_; intro v' w4 h8 h9 h10)
                go_roundw
                case rel => exact ⟨k + 1, by omega, by go_num, HN2.out, by rw [HTK.out]; exact h8, by have := h8.som (by simp); rw [show (D.take k ++ [(x, y)]).length = k + 1 by simp; omega] at this; exact this, (below_drewN hbel _).trans h9⟩
                case measure => simp [RowKit.intOf]; omega
              · have hxl : Wr.less x n = false := by simpa using hxl
                rw [hxl] at hb0
                have HT2 := Lib.hid (HTS.out hxl)
                clear hxl
                go_wp2_with fail
                go_quiet (fail)
                go_wp2_with fail
                go_meet
                exact ⟨k, by omega, HT2.out.1, HT2.out.2, HO.out, HSM.out, below_drewN hbel _⟩
            · obtain rfl : k = D.length := by omega
              have HT2 := Lib.hid (tw_end D n (fun j h => HLS.out j h h))
              have hnl : ¬ (D.length : Int) < (D.length : Int) := by omega
              go_wp2_with fail
              go_quiet (fail)
              go_wp2_with fail
              go_meet
              exact ⟨D.length, Nat.le_refl _, HT2.out.1, HT2.out.2, HO.out, HSM.out, below_drewN hbel _⟩
        case rest =>
          obtain ⟨k, hk, htk, hdk, ho, ⟨g3, c3, rfl⟩, hbel⟩ := hcut
          clear hmade
          obtain ⟨w3, hw3⟩ : ∃ w', w' = wc := ⟨_, rfl⟩
          subst hw3
          have hle := hbel.size
          have f0 := (hbel.cell (p := ⟨g0, 0, none⟩) hgl2).trans E0.out
          have f1 := (hbel.cell (p := ⟨g0, 1, none⟩) hgl2).trans E1.out
          have HO := Lib.hid ho
          have HINS : Hid (Wr.ins D (n, t) = (D.take k ++ [(n, t)]) ++ D.drop k) := Lib.hid (by unfold Wr.ins; rw [← htk, ← hdk]; simp)
          have hol : (D.take k).length = k := by simp; omega
          have hkl : k < 1000000 := by omega
          have hbel3 := Lib.hid hbel
          clear ho htk hdk hbel
          go_upto_region 13 with (at_builtin; refine app_file rfl (.tmp 61) (.tmp 63) rfl w2.heap.size _ (D.take k) (n, t) rfl w3.heap.size rfl rfl HO.out hle (by omega) ?_; intro v4 w4 h8 h9 h10)
          have hb4 : Below w2.heap.size w2 w4 := hbel3.out.trans h9
          have hle4 := hb4.size
          have HR4 := Lib.hid (HD.out.below hb4 (Nat.le_refl _))
          have H8 := Lib.hid h8
          have hkI : (k : Int) ≤ (D.length : Int) := by omega
          have hkI0 : (0 : Int) ≤ (k : Int) := by omega
          have hDc : (D.length : Int) ≤ (c : Int) := by omega
          clear h8 h10
          obtain ⟨ad, had, hnews⟩ : ∃ ad, slAddr (some ⟨g, 0, none⟩) k c 2 = some ad ∧ ∀ j u, ((D.drop k).flatMap ff)[j]? = some u → w4.cell? (ad.add j) = some u := by
            by_cases hkD : k < D.length
            · refine ⟨⟨g, 0 + k * 2, none⟩, ?_, row_news HR4.out k hkD⟩
              simp only [slAddr]
              rw [if_neg (by omega)]
              simp [Addr.add_lit]
            · refine ⟨(slAddr (some ⟨g, 0, none⟩) k c 2).getD ⟨g, 0, none⟩, ?_, ?_⟩
              · simp only [slAddr]
                split <;> simp
              · intro j u hj
                rw [List.drop_of_length_le (by omega)] at hj
                simp at hj
          have HNW := Lib.hid hnews
          have HLEN : Hid (((D.drop k).flatMap ff).length = (D.length - k) * 2) := Lib.hid (by rw [flat_length ff_length]; simp)
          have HONE : Hid (∀ u ∈ (D.drop k).flatMap ff, u.oneCell' = true) := Lib.hid (fun u hu => by
            obtain ⟨f, _, hf⟩ := List.mem_flatMap.1 hu
            simp [ff] at hf
            rcases hf with rfl | rfl <;> rfl)
          obtain ⟨i0, hi0, hz0, hz1, hz2⟩ := info_parts fileInfo
          have h8l : (D.take k ++ [(n, t)]).length = k + 1 := by simp; omega
          have hsz : (k + 1) + (D.length - k) ≤ 200000 := by omega
          have HI := Lib.hid (And.intro hi0 (And.intro hz0 (And.intro hz1 hz2)))
          clear hnews hi0 hz0 hz1 hz2
          go_wp2_with (at_builtin; refine wpList_append_own _ rfl (.tmp 65) (.tmp 68) 30 rfl w2.heap.size 29 i0 _ 2 32 Tryz.underlying30 HI.out.1 HI.out.2.1 HI.out.2.2.1 HI.out.2.2.2 rfl (by decide) v4 (D.take k ++ [(n, t)]).length _ rfl H8.out ad (D.length - k) (c - k) ((D.drop k).flatMap ff) rfl HLEN.out HNW.out HONE.out (by simp only [maxLen]; omega) (by omega) hle4 ?_; intro v5 w5 h11 h12 h13)
          have h11' : OwnC 29 2 ff w2.heap.size w5 v5 ((D.take k ++ [(n, t)]) ++ D.drop k) := by
            have e : ((D.take k ++ [(n, t)]) ++ D.drop k).length = (D.take k ++ [(n, t)]).length + (D.length - k) := by simp; omega
            unfold OwnC
            rw [e, List.flatMap_append]
            exact h11
          have hb5 : Below w2.heap.size w2 w5 := hb4.trans (grown_below H8.out hle4 h12)
          go_wp2_with fail
          go_ret2
          exact ⟨v5, by rw [HE.out.1]; rfl, by rw [HE.out.2, HINS.out]; exact h11'.mono HB2.out.size, HB2.out.trans (hb5.mono HB2.out.size)⟩
set_option maxRecDepth 100000 in
set_option maxHeartbeats 4000000 in
theorem mapF_own (v : Value) (l : List Wr.F) (most bytes : Nat) (w : World) (hr : RowC 2 ff w w.heap.size v l) (ok : ∀ f ∈ l, FOk f) (hm : most ≤ 1000) (hby : bytes ≤ 100000) :
    Calls Tryz.prog 16 #[v, .int .i64 most, .int .i64 bytes] w fun e w' => ∃ o, e = .returned o ∧ OwnC 29 2 ff w.heap.size w' o (Wr.mapF l most bytes) ∧ Below w.heap.size w w' := by
  obtain ⟨A, cap, rfl, c1, c2, c3⟩ := hr.shape
  have HC := Lib.hid c3
  have OK := Lib.hid ok
  clear c3 ok hr
  have hmade := OwnC.made 29 2 ff w.heap.size w (Nat.le_refl _)
  go_enter Tryz.func16, Tryz.ntmps16
  go_wp2_with fail
  go_loopw [7, 8] (fun o i wr => ∃ k : Nat, k ≤ most ∧ k ≤ l.length ∧ i = .int .i64 k ∧ OwnC 29 2 ff w.heap.size wr o (Wr.mapF l k bytes) ∧ Below w.heap.size w wr) (fun _ i _ => most - (RowKit.intOf i).toNat)
  case atStart => exact ⟨0, Nat.zero_le _, Nat.zero_le _, rfl, hmade, (Below.refl _ _).alloc (Nat.le_refl _) _⟩
  case round =>
    clear hmade
    obtain ⟨k, hkm, hk, rfl, ho, hbel⟩ := hrel
    have hle := hbel.size
    have hol := mapF_le l k bytes
    obtain ⟨A1, cap1, rfl, _⟩ := (ho.rowC ff_length).shape
    have HO := Lib.hid ho
    clear ho
    by_cases hlt : k < l.length
    · have hi : (k : Int) < (l.length : Int) := by omega
      have hi0 : (0 : Int) ≤ (k : Int) := by omega
      by_cases hlm : k < most
      · have hi2 : (k : Int) < (most : Int) := by omega
        obtain ⟨b, off, rfl, hbl, hc⟩ := HC.out (by rintro rfl; simp at hlt)
        obtain ⟨d0, d1⟩ := ff_cells (fun i u hu => (hbel.cell (p := ⟨b, off + k * 2 + i, none⟩) hbl).trans (hc k hlt i u hu))
        have hok := OK.out _ (List.getElem_mem hlt)
        have hst := map_step l bytes k hlt
        clear hc
        generalize l[k] = f at *
        obtain ⟨x, y⟩ := f
        obtain ⟨ok1, ok2⟩ := hok
        simp only at ok1 ok2 d0 d1 hst
        have hyx := xext_minr y bytes
        have hys := bs_size y
        have hox := ok1
        simp only [maxLen] at ok2
        have j1 : (0 : Int) ≤ min ((bs y).size : Int) (bytes : Int) := by omega
        have j2 : min ((bs y).size : Int) (bytes : Int) ≤ ((bs y).size : Int) := by omega
        have hy2 : (y.take bytes).length ≤ maxLen := by simp only [maxLen]; simp; omega
        generalize y.take bytes = z at *
        generalize Wr.mapF l k bytes = M at *
        have hb1 : Below wr.heap.size wr (wr.alloc (.cells #[.string (bs x), .string (bs z)] 29)) := (Below.refl _ _).alloc (Nat.le_refl _) _
        have HP := Lib.hid (putF_own _ M x z _ ((HO.out.below hb1).rowC ff_length) (by omega) hox hy2)
        have HB1 := Lib.hid (below_via hbel hb1)
        have HB1s := hb1.size
        have HST := Lib.hid hst
        have HO1 := Lib.hid (HO.out.below hb1)
        clear hst hb1 ok1 hox hy2 hys
        go_wp2_with fail
        refine HP.out.mono ?_
        rintro e w3 ⟨o, rfl, ho, hb3⟩
        obtain ⟨A3, n3, c3, hoo⟩ : ∃ A n c, o = .slice A n c := by obtain ⟨A, c, h, _⟩ := (ho.rowC ff_length).shape; exact ⟨A, _, c, h⟩
        subst hoo
        have ho := ho.mono (Nat.le_trans hle HB1s)
        have hb4 := below_via HB1.out hb3
        by_cases he : putE M (x, z) = 0
        · have HS : Hid (Wr.mapF l (k + 1) bytes = putL M (x, z)) := Lib.hid (by rw [HST.out, if_pos he])
          rw [he]
          have HOO := Lib.hid ho
          clear ho he
          go_wp2_with fail
          go_roundw
          case rel => exact ⟨k + 1, by omega, by omega, by go_num, by rw [HS.out]; exact HOO.out, hb4⟩
          case measure => simp [RowKit.intOf]; omega
        · have HS : Hid (Wr.mapF l (k + 1) bytes = M) := Lib.hid (by rw [HST.out, if_neg he])
          have HO3 := Lib.hid (HO1.out.below hb3)
          generalize putE M (x, z) = pe at *
          have hpe : ((pe : Int) == 0) = false := by rw [beq_eq_false_iff_ne]; omega
          clear ho he
          go_wp2_with fail
          go_roundw
          case rel => exact ⟨k + 1, by omega, by omega, by go_num, by rw [HS.out]; exact HO3.out, hb4⟩
          case measure => simp [RowKit.intOf]; omega
      · obtain rfl : k = most := by omega
        have q1 : decide ((k : Int) < (k : Int)) = false := decide_eq_false (by omega)
        go_wp2_with fail
        go_ret
        exact ⟨_, rfl, HO.out, hbel⟩
    · have hi : (l.length : Int) ≤ (k : Int) := by omega
      have HE : Hid (Wr.mapF l most bytes = Wr.mapF l k bytes) := Lib.hid (by rw [map_end l bytes most (by omega)]; congr 1; omega)
      go_wp2_with fail
      go_ret
      exact ⟨_, rfl, by rw [HE.out]; exact HO.out, hbel⟩
end Go.Proofs.YtkoegbjnhoecoaaGreatDoor
