/- RecordFresh. -/
import Derived.Test.YtiogmegdkfnkkaaDoorRcFx
import Derived.Test.YtiogmegdkfnkkaaDoorQ6
import Derived.Test.YtiogmegdkfnkkaaDoorQ7
import Derived.Test.YtiogmegdkfnkkaaDoorQ15
import Derived.IntWalk
import Derived.Test.YtiogmegdkfnkkaaDoorQ11
namespace Go.Proofs.YtiogmegdkfnkkaaDoor
open Go.RowKit Tx

theorem fresh_q (v1 v2 : Value) (z : Rc.Rec) (v : Value) (m : List Wr.F) (w : World) (q : Bool) (hz : RecIs w w.heap.size ([114], v1, v2) z) (hr : RowC 2 ff w w.heap.size v m) (hu : Up m) (hn : m.length < 1000000) (hz1 : z.2.1.length < 1000000) (hz2 : z.2.2.length < 1000000) (hq : Rc.fresh z m = q) :
    Calls Tryd.prog 13 #[.agg #[.string ⟨#[114]⟩, v1, v2], v] w fun e w' => e = .returned (.bool q) ∧ Below w.heap.size w w' := by
  subst hq
  exact fresh_any ([114], v1, v2) z v m w hz hr hu hn hz1 hz2
theorem any_take1 (ns : List Bs) (j : Nat) (n : Bs) (h : j < ns.length) : (ns.take (j + 1)).any (fun m => m == n) = ((ns.take j).any (fun m => m == n) || ns[j] == n) := by
  rw [List.take_succ_eq_append_getElem h, List.any_append]
  simp
theorem any_take2 (ns : List Wr.F) (j : Nat) (n : Bs) (h : j < ns.length) : (ns.take (j + 1)).any (fun m => m.1 == n) = ((ns.take j).any (fun m => m.1 == n) || ns[j].1 == n) := by
  rw [List.take_succ_eq_append_getElem h, List.any_append]
  simp
theorem row_blk {α : Type} {f : α → Value} {w w' : World} {B B' : Nat} {v : Value} {xs : List α} (h : Row f w B v xs) (hB : B ≤ B')
    (hk : ∀ b off m c, v = .slice (some ⟨b, off, none⟩) m c → w'.heap[b]? = w.heap[b]?) : Row f w' B' v xs := by
  obtain ⟨cap, h1, h2, h3⟩ := h
  refine ⟨cap, h1, h2, ?_⟩
  rcases h3 with h3 | ⟨b, off, hv, hlt, hc⟩
  · exact .inl h3
  · refine .inr ⟨b, off, hv, Nat.lt_of_lt_of_le hlt hB, fun j hj => ?_⟩
    rw [World.cell?_of_block (a := ⟨b, off + j, none⟩) (hk b off _ _ hv)]
    exact hc j hj
theorem slA0 (A : Option Addr) (m s : Nat) : slAddr A 0 m s = A := by
  unfold slAddr
  split
  · rfl
  · cases A with
    | none => rfl
    | some a => simp [Addr.add]
set_option maxRecDepth 100000 in
set_option maxHeartbeats 16000000 in
theorem freshLaw_any (v1 v2 : Value) (fl : List Wr.F) (nl : List Bs) (on ot : Bs) (w : World) (hr1 : RowC 2 ff w w.heap.size v1 fl) (ok1 : ∀ f ∈ fl, FOk f) (hr2 : Row vs w w.heap.size v2 nl) (ok2 : ∀ x ∈ nl, x.length ≤ maxLen) (hon : on.length ≤ maxLen) (hot : ot.length ≤ maxLen) (hg : Gl w) :
    Calls Tryd.prog 5 #[v1, v2, .agg #[vs on, vs ot]] w fun e w' => e = .returned (.bool true) ∧ Below w.heap.size w w' := by
  have HG := Lib.hid hg
  have HOK2 := Lib.hid ok2
  have ht1 := xext_minr ot 120
  simp only [show ((120 : Nat) : Int) = 120 from rfl] at ht1
  have hm1 := hon
  simp only [maxLen] at hon hot
  have j1 : (0 : Int) ≤ min ((bs ot).size : Int) 120 := by omega
  have j2 : min ((bs ot).size : Int) 120 ≤ ((bs ot).size : Int) := by omega
  have hl120 : (ot.take 120).length ≤ 120 := by simp; omega
  generalize ot.take 120 = tt at *
  have hb0 : Below w.heap.size w (w.alloc (.cells #[.string (bs on), .string (bs ot)] 58)) := (Below.refl _ _).alloc (Nat.le_refl _) _
  have hX0 : (w.alloc (.cells #[.string (bs on), .string (bs ot)] 58)).heap[w.heap.size]? = some (.cells #[.string (bs on), .string (bs ot)] 58 (0, 0)) := heap_alloc_new _ _
  have hR0 := Lib.hid (hr1.step hb0)
  have hN0 := Lib.hid (hr2.step hb0)
  have HM := Lib.hid (fun wx (h : RowC 2 ff wx wx.heap.size v1 fl) => mapF_any v1 fl 8 120 wx h ok1 (by omega) (by omega))
  have HUP := Lib.hid (mapF_up fl 8 120)
  have HRI := Lib.hid (Wr.mapF_right fl 8 120)
  have hml := mapF_le fl 8 120
  generalize Wr.mapF fl 8 120 = M at *
  obtain ⟨A2, cap2, rfl, c1, c2, c3⟩ := hr2.shape
  clear hr1 ok1 hr2 ok2 hg c3
  go_enter Tryd.func5, Tryd.ntmps5
  go_wp2_with fail
  obtain ⟨W0, hW0⟩ : ∃ W, W = w.alloc (.cells #[.string (bs on), .string (bs ot)] 58) := ⟨_, rfl⟩
  rw [← hW0] at hb0 hX0 ⊢
  replace hR0 : Hid (RowC 2 ff W0 W0.heap.size v1 fl) := Lib.hid (by rw [hW0]; exact hR0.out)
  replace hN0 : Hid (Row vs W0 W0.heap.size (.slice A2 nl.length cap2) nl) := Lib.hid (by rw [hW0]; exact hN0.out)
  clear hW0
  obtain ⟨X, hX⟩ : ∃ X, X = w.heap.size := ⟨_, rfl⟩
  rw [← hX] at hX0 ⊢
  have HXE := Lib.hid hX
  clear hX
  refine (HM.out _ hR0.out).mono ?_
  rintro e w1 ⟨o1, rfl, M1, hnw, b1⟩
  obtain ⟨mA, mc, rfl, mc1, mc2, _⟩ := M1.shape
  have hX1 := (b1.block X (lt_of_block hX0)).trans hX0
  have hN1 := Lib.hid (hN0.out.step b1)
  have hB1 := Lib.hid (below_via hb0 b1)
  have HM1 := Lib.hid M1
  have hMX : ∀ k, (Value.slice mA M.length mc).ownBlock = some k → X ≠ k := fun k h => by have := hnw k h; have := lt_of_block hX0; omega
  have HMX := Lib.hid hMX
  clear hX0 hN0 b1 hb0 M1 hR0 hnw hMX
  have hmade : Txs w1.heap.size (w1.alloc (.cells #[] 9)) (.slice (some ⟨w1.heap.size, 0, none⟩) 0 0) [] := World.ownsRow_made w1 #[] 0 (Nat.le_refl _) (by decide) (by simp)
  obtain ⟨n, hn⟩ : ∃ n, n = min nl.length 8 := ⟨_, rfl⟩
  have hn8 : n ≤ 8 := by omega
  have hnl : n ≤ nl.length := by omega
  have hnd : Hid (n = nl.length ∨ n = 8) := Lib.hid (by omega)
  obtain ⟨NS, hNS⟩ : ∃ NS : List Bs, NS = (nl.take n).map (·.take 60) := ⟨_, rfl⟩
  have hNSl : NS.length = n := by rw [hNS]; simp; omega
  have HNS := Lib.hid hNS
  clear hn hNS
  go_upto_block 0 with fail
  go_cut [8] (fun o wx => Txs w1.heap.size wx o NS ∧ Below w1.heap.size w1 wx)
  case first =>
    as_aux_lemma =>
      go_wp2_with fail
      go_loopw [8, 9] (fun o i wr => ∃ k : Nat, k ≤ n ∧ i = .int .i64 k ∧ Txs w1.heap.size wr o ((nl.take k).map (·.take 60)) ∧ Below w1.heap.size w1 wr) (fun _ i _ => n - (RowKit.intOf i).toNat)
      case atStart => exact ⟨0, Nat.zero_le _, rfl, hmade, (Below.refl _ _).alloc (Nat.le_refl _) _⟩
      case round =>
        clear hmade
        obtain ⟨k, hk, rfl, ho, hbel⟩ := hrel
        have hle := hbel.size
        by_cases hlt : k < n
        · have hkl : k < nl.length := by omega
          obtain ⟨A', c', e', _, _, hc⟩ := hN1.out.shape
          injection e' with e1 _ e2
          subst e1 e2
          obtain ⟨b, off, rfl, hbl, hc⟩ := hc (by rintro rfl; simp at hkl)
          have d0 := (hbel.cell (p := ⟨b, off + k, none⟩) hbl).trans (hc k hkl)
          have hxl := HOK2.out _ (List.getElem_mem hkl)
          have HS := Lib.hid (take_map_at (·.take 60) nl k hkl)
          have hol : ((nl.take k).map (·.take 60)).length ≤ 8 := by simp; omega
          have hkI : (k : Int) < (nl.length : Int) := by omega
          have hk8 : (k : Int) < 8 := by omega
          have hk0 : (0 : Int) ≤ (k : Int) := by omega
          generalize nl[k] = x at *
          have hx60 := xext_minr x 60
          simp only [show ((60 : Nat) : Int) = 60 from rfl] at hx60
          simp only [maxLen] at hxl
          have hxs := bs_size x
          have i1 : (0 : Int) ≤ min ((bs x).size : Int) 60 := by omega
          have i2 : min ((bs x).size : Int) 60 ≤ ((bs x).size : Int) := by omega
          generalize x.take 60 = y at *
          generalize (nl.take k).map (·.take 60) = L at *
          have HO := Lib.hid ho
          clear hc ho hxs hxl
          go_upto_region 6 with fail
          go_region_held3 (fun wx => wx.cell? ⟨b, off + k, none⟩ = some (.string (bs x))) (first | go_keep | exact (h9.cell (p := ⟨b, off + k, none⟩) hbl).trans (Lib.cell?_alloc_marked _ d0)) ((refine step_text (by rfl) (.tmp 35) (.tmp 47) (by rfl) w1.heap.size _ L y (by rfl) wr.heap.size (by rfl) (heap_alloc_new _ _) (HO.out.below ((Below.refl _ _).alloc (Nat.le_refl _) _).drew) (by simp; omega) (by omega) ?_; intro v' w4 h8 h9))
          go_wp2_with fail
          go_roundw
          case rel => exact ⟨k + 1, by omega, by go_num, by rw [HS.out]; exact h8, (hbel.alloc hle _).drew.trans h9⟩
          case measure => simp [RowKit.intOf]; omega
        · obtain rfl : k = n := by omega
          rw [← HNS.out] at ho
          rcases hnd.out with hkI | hkI
          · have q1 : (nl.length : Int) ≤ (k : Int) := by omega
            go_wp2_with fail
            go_meet
            exact ⟨ho, hbel⟩
          · by_cases hkl : k < nl.length
            · have q1 : (k : Int) < (nl.length : Int) := by omega
              have q2 : (8 : Int) ≤ (k : Int) := by omega
              have q3 : decide ((k : Int) < 8) = false := decide_eq_false (by omega)
              have q4 : decide (k < 8) = false := decide_eq_false (by omega)
              go_wp2_with fail
              go_meet
              exact ⟨ho, hbel⟩
            · have q1 : (nl.length : Int) ≤ (k : Int) := by omega
              go_wp2_with fail
              go_meet
              exact ⟨ho, hbel⟩
  case rest =>
    obtain ⟨ho, hbel⟩ := hcut
    clear hmade
    obtain ⟨w2, hw2⟩ : ∃ w2, w2 = wc := ⟨_, rfl⟩
    subst hw2
    have hX2 := (hbel.block X (lt_of_block hX1)).trans hX1
    have hB2 := Lib.hid (below_via hB1.out hbel)
    have HM2 := Lib.hid (HM1.out.step hbel)
    have HR2 := Lib.hid ho.row
    have hNX : ∀ k, u8.ownBlock = some k → X ≠ k := fun k h => by have := (ho.lt k h).1; have := lt_of_block hX1; omega
    have HNX := Lib.hid hNX
    clear hNX
    clear ho hbel hX1 hB1 HM1 hN1
    obtain ⟨hf, hhf⟩ : ∃ hf, hf = M.length / 2 := ⟨_, rfl⟩
    have d1 : (0 : Int) ≤ (hf : Int) := by omega
    have d2 : (hf : Int) ≤ (mc : Int) := by omega
    have d0 : hf ≤ M.length := by omega
    have d3 : (M.length : Int).tdiv 2 = (hf : Int) := by rw [hhf]; rfl
    have d4 : (M.length : Int) / 2 = (hf : Int) := by rw [hhf]; rfl
    have d5 : IntKind.i64.wrap ((M.length : Int).tdiv 2) = (hf : Int) := by rw [d3]; exact IntWalk.i64_in _ (by omega)
    have d6 : IntKind.i64.wrap ((M.length : Int) / 2) = (hf : Int) := by rw [d4]; exact IntWalk.i64_in _ (by omega)
    have d7 : IntKind.i64.wrap (hf : Int) = (hf : Int) := IntWalk.i64_in _ (by omega)
    have HHF := Lib.hid hhf
    clear hhf
    have HLK := Lib.hid (fun wx (hb : Below w2.heap.size w2 wx) => look_any _ _ M NS wx (HM2.out.step hb) (HR2.out.step hb) HUP.out (by omega) (by omega))
    go_upto_region 7 with fail
    go_cut [10] (fun p wx => ∃ R lA lc, p = .pointer (some ⟨R, 0, none⟩) ∧ wx.heap[R]? = some (.cells #[.string ⟨#[114]⟩, .slice lA (Rc.look M NS).length lc, .slice (slAddr mA 0 mc 2) hf mc] 35 (0, 0)) ∧ RowC 3 sf wx wx.heap.size (.slice lA (Rc.look M NS).length lc) (Rc.look M NS) ∧ (∀ b, blkOf (.slice lA (Rc.look M NS).length lc) = some b → w2.heap.size ≤ b) ∧ w2.heap.size ≤ R ∧ Below w2.heap.size w2 wx)
    case first =>
      as_aux_lemma =>
        go_region_held3 (fun wx => True) (go_keep) (first
          | (go_at_call 11; refine (HLK.out _ (by exact ((Below.refl _ _).drew.alloc (Nat.le_refl _) _))).mono ?_; rintro e w3 ⟨lv, rfl, LK, hlb, b3⟩; obtain ⟨lA, lc, rfl, l1, l2, _⟩ := LK.shape; have g3 := (b3.block w2.heap.size (by simp)).trans (heap_alloc_new _ _); obtain ⟨e0, e1, e2, f0, f1, f2⟩ := cells3 g3; dsimp only)
          | (go_at_call 11; refine (HLK.out _ (by exact (Below.refl _ _).drew)).mono ?_; rintro e w3 ⟨lv, rfl, LK, hlb, b3⟩; obtain ⟨lA, lc, rfl, l1, l2, _⟩ := LK.shape; dsimp only))
        all_goals go_wp2_with fail
        · go_meet
          exact ⟨w3.heap.size, lA, lc, rfl, heap_alloc_new _ _, LK.step ((Below.refl _ _).alloc (Nat.le_refl _) _), hlb, b3.size, Bal (below_via (Below.refl _ _).drew b3)⟩
        · go_meet
          have hbA : Below w2.heap.size w2 w3 := below_via ((Below.refl _ _).drew.alloc (Nat.le_refl _) _) b3
          refine ⟨w2.heap.size, lA, lc, rfl, set3_same g3, LK.blk (by simp) (fun b off m c hv _ _ => ?_), (fun b h => by have := hlb b h; simp at this; omega), Nat.le_refl _, ((hbA.setCell (p := ⟨w2.heap.size, 0, none⟩) (Nat.le_refl _) _).setCell (p := ⟨w2.heap.size, 1, none⟩) (Nat.le_refl _) _).setCell (p := ⟨w2.heap.size, 2, none⟩) (Nat.le_refl _) _⟩
          have hne : b ≠ w2.heap.size := fun e => by
            have := hlb b (by rw [hv]; rfl)
            simp at this
            omega
          rw [setCell_oth _ _ _ _ _ hne, setCell_oth _ _ _ _ _ hne, setCell_oth _ _ _ _ _ hne]
    case rest =>
      obtain ⟨R, lA, lc, rfl, hR, LK, hlb, hRw, hbel⟩ := hcut
      rw [slA0] at hR
      obtain ⟨w4, hw4⟩ : ∃ w4, w4 = wc := ⟨_, rfl⟩
      subst hw4
      have hX4 := (hbel.block X (lt_of_block hX2)).trans hX2
      have hXR : X ≠ R := by have := lt_of_block hX2; omega
      have hXL : ∀ k, (Value.slice lA (Rc.look M NS).length lc).ownBlock = some k → X ≠ k := fun k h => by have := hlb k (blk_own h); have := lt_of_block hX2; omega
      have hB4 := Lib.hid (below_via hB2.out hbel)
      have HM4 := Lib.hid (HM2.out.step hbel)
      have HR4 := Lib.hid (HR2.out.step hbel)
      have HLK4 := Lib.hid LK
      have HREC : Hid (RecIs w4 w4.heap.size ([114], .slice lA (Rc.look M NS).length lc, .slice mA hf mc) (frR M NS)) := Lib.hid ⟨rfl, LK, by
        have := HM4.out.cutTo (k := hf) d0
        rw [HHF.out] at this ⊢
        exact this⟩
      obtain ⟨x0, x1, x2, x3⟩ := cells2 hX4
      have hR4l := lt_of_block hR
      have hX4l := lt_of_block hX4
      clear hB2 HM2 HR2 hX2 hbel LK HLK d3 d4 d5 d6 d7 hlb
      go_upto_region 9 with fail
      obtain ⟨W5, hW5⟩ : ∃ W, W = w4.setCell ⟨X, 1, none⟩ (.string (bs tt)) := ⟨_, rfl⟩
      rw [← hW5]
      have hX5 : W5.heap[X]? = some (.cells #[.string (bs on), .string (bs tt)] 58 (0, 0)) := by rw [hW5]; exact cells_setCell hX4 _
      have hoth : ∀ k, k ≠ X → W5.heap[k]? = w4.heap[k]? := fun k hk => by rw [hW5]; exact setCell_oth _ _ _ _ _ hk
      have hsz : W5.heap.size = w4.heap.size := by rw [hW5]; simp
      have hR5 := (hoth R (fun e => hXR e.symm)).trans hR
      have hB5 : Hid (Below w.heap.size w W5) := Lib.hid (by rw [hW5]; exact hB4.out.setCell (p := ⟨X, 1, none⟩) (by rw [HXE.out]; exact Nat.le_refl _) _)
      have HM5 : Hid (RowC 2 ff W5 W5.heap.size (.slice mA M.length mc) M) := Lib.hid (HM4.out.blk (by rw [hsz]; exact Nat.le_refl _) fun b off m c hv _ _ => hoth b fun e => HMX.out b (own_blk (by rw [hv]; rfl)) e.symm)
      have HR5 : Hid (Row vs W5 W5.heap.size u8 NS) := Lib.hid (row_blk HR4.out (by rw [hsz]; exact Nat.le_refl _) fun b off m c hv => hoth b fun e => HNX.out b (own_blk (by rw [hv]; rfl)) e.symm)
      have HREC5 : Hid (RecIs W5 W5.heap.size ([114], .slice lA (Rc.look M NS).length lc, .slice mA hf mc) (frR M NS)) := Lib.hid (HREC.out.blk (by rw [hsz]; exact Nat.le_refl _) fun b _ hb => hoth b fun e => by
        rcases hb with ⟨_, hb⟩ | ⟨_, hb⟩
        · exact hXL b (own_blk hb) e.symm
        · exact HMX.out b (own_blk (by unfold blkOf at hb ⊢; cases mA <;> simp_all)) e.symm)
      clear hW5 hoth hsz hB4 HM4 HR4 HREC HLK4 hX4 hR x0 x1 x2 x3 hXL HMX HNX
      obtain ⟨x0, x1, x2, x3⟩ := cells2 hX5
      have H6 := Lib.hid (putF_any _ M on tt W5 HM5.out (by omega) hm1 (by simp only [maxLen]; omega))
      go_wp2_with fail
      refine H6.out.mono ?_
      rintro e w6 ⟨kv, rfl, K6, _, b6⟩
      obtain ⟨kA, kc, rfl, _, _, _⟩ := K6.shape
      have hX6 := (b6.block X (lt_of_block hX5)).trans hX5
      have hR6 := (b6.block R (lt_of_block hR5)).trans hR5
      have HM6 := Lib.hid (HM5.out.step b6)
      have HR6 := Lib.hid (HR5.out.step b6)
      have HREC6 := Lib.hid (HREC5.out.step b6)
      have hB6 := Lib.hid (below_via hB5.out b6)
      have HK6 := Lib.hid K6
      clear H6 x0 x1 x2 x3 hX5 hR5 HM5 HR5 HREC5 hB5 b6 K6
      obtain ⟨x0, x1, x2, x3⟩ := cells2 hX6
      have H7 := Lib.hid (drop_any _ M on w6 HM6.out (by omega))
      go_wp2_with fail
      refine H7.out.mono ?_
      rintro e w7 ⟨dv, rfl, D7, ⟨dg, dc, rfl⟩, b7⟩
      rw [was_is]
      have hX7 := (b7.block X (lt_of_block hX6)).trans hX6
      have hR7 := (b7.block R (lt_of_block hR6)).trans hR6
      have HM7 := Lib.hid (HM6.out.step b7)
      have HR7 := Lib.hid (HR6.out.step b7)
      have HREC7 := Lib.hid (HREC6.out.step b7)
      have hB7 := Lib.hid (below_via hB6.out b7)
      have HK7 := Lib.hid (HK6.out.step b7)
      have HD7 := Lib.hid (D7.rowC ff_length)
      clear H7 x0 x1 x2 x3 hX6 hR6 HM6 HR6 HREC6 hB6 b7 HK6 D7
      obtain ⟨x0, x1, x2, x3⟩ := cells2 hX7
      have H8 := Lib.hid (r2get_any _ M on w7 HM7.out (by omega))
      go_wp2_with fail
      refine H8.out.mono ?_
      rintro e w8 ⟨rfl, rfl⟩
      clear H8
      obtain ⟨nA, ncap, rfl, n1, n2, n3⟩ := HR7.out.shape
      have HNC := Lib.hid n3
      obtain ⟨r0, r1, r2, _, _, _⟩ := cells3 hR7
      have hwk := HREC7.out.writes.shape
      obtain ⟨A', c', e', _, _, h3⟩ := hwk
      injection e' with e1 e2 e3
      subst e1 e3
      have HWC := Lib.hid h3
      have hhl : (frR M NS).2.2.length = hf := by rw [← e2]
      clear e2
      have H1 := Lib.hid (fun wx (hb : Below w7.heap.size w7 wx) => fresh_q _ _ (frR M NS) _ M wx true (HREC7.out.step hb) (HM7.out.step hb) HUP.out (by omega) (by have := lookTo_len M NS NS.length; show (Rc.lookTo M NS NS.length).length < _; omega) (by rw [hhl]; omega) (fresh_now M NS HUP.out))
      have H2 := Lib.hid (fun wx (hb : Below w7.heap.size w7 wx) => fresh_q _ _ (frR M NS) _ (Wr.dropF M on) wx _ (HREC7.out.step hb) (HD7.out.step hb) (dropF_up HUP.out on) (by have := dropF_le M on; omega) (by have := lookTo_len M NS NS.length; show (Rc.lookTo M NS NS.length).length < _; omega) (by rw [hhl]; omega) (fresh_drop M NS on HUP.out))
      have H3 := Lib.hid (fun (he : putE M (on, tt) = 0) wx (hb : Below w7.heap.size w7 wx) => fresh_q _ _ (frR M NS) _ (putL M (on, tt)) wx _ (HREC7.out.step hb) (HK7.out.step hb) (putL_up HRI.out (on, tt) he) (by have := (Wr.putF_right M _ (on, tt) HRI.out (putE_ok he).2).most; omega) (by have := lookTo_len M NS NS.length; show (Rc.lookTo M NS NS.length).length < _; omega) (by rw [hhl]; omega) (fresh_put M NS on tt HUP.out he))
      clear h3 n3 HREC7 HM7 HD7 HK7 HR7
      go_upto_block 2 with fail
      go_cut [17] (fun q wx => ∃ d, q = .bool (has NS on) ∧ wx = w7.drewN d)
      case first =>
        as_aux_lemma =>
          go_wp2_with fail
          go_loopw [17, 19] (fun q i wx => ∃ k d : Nat, k ≤ NS.length ∧ i = .int .i64 k ∧ q = .bool ((NS.take k).any fun m => m == on) ∧ wx = w7.drewN d) (fun _ i _ => NS.length - (RowKit.intOf i).toNat)
          case atStart => exact ⟨0, 0, Nat.zero_le _, rfl, by simp, rfl⟩
          case round =>
            obtain ⟨k, d, hk, rfl, rfl, rfl⟩ := hrel
            by_cases hkt : k < NS.length
            · obtain ⟨b, off, rfl, hbl, hcc⟩ := HNC.out (by rintro rfl; simp at hkt)
              have k2 := hcc k hkt
              have HL := Lib.hid (any_take1 NS k on hkt)
              generalize NS[k] = x at *
              have i0 : (0 : Int) ≤ (k : Int) := by omega
              have i1 : (k : Int) < (NS.length : Int) := by omega
              clear hcc
              generalize ((NS.take k).any fun m => m == on) = q at *
              cases q with
              | true =>
                go_wp2_with fail
                go_quiet (fail)
                go_wp2_with fail
                go_roundw
                case rel => exact ⟨k + 1, _, by omega, by go_num, by rw [HL.out]; rfl, by first | rfl | exact World.drewN_drewN _ _ _⟩
                case measure => simp [RowKit.intOf]; omega
              | false =>
                have hbe : ((bs x).toList == (bs on).toList) = (x == on) := by rw [toListB, toListB]
                go_wp2_with fail
                go_quiet (fail)
                go_wp2_with fail
                go_roundw
                case rel => exact ⟨k + 1, _, by omega, by go_num, by rw [HL.out]; rfl, by first | rfl | exact World.drewN_drewN _ _ _⟩
                case measure => simp [RowKit.intOf]; omega
            · obtain rfl : k = NS.length := by omega
              go_wp2_with fail
              go_meet
              exact ⟨d, by rw [List.take_length]; rfl, rfl⟩
      case rest =>
        obtain ⟨d, rfl, rfl⟩ := hcut
        have hwr : wrote M on = (frR M NS).2.2.any fun f => f.1 == on := rfl
        obtain ⟨WL, hWL⟩ : ∃ WL, WL = (frR M NS).2.2 := ⟨_, rfl⟩
        rw [← hWL] at hwr hhl HWC
        have HWR := Lib.hid hwr
        have hdB := below_of_drewN (B := w7.heap.size) (a := w7) d
        obtain ⟨W8, hW8⟩ : ∃ W, W = w7.drewN d := ⟨_, rfl⟩
        rw [← hW8] at hdB ⊢
        have hX8 := (hdB.block X (lt_of_block hX7)).trans hX7
        have hR8 := (hdB.block R (lt_of_block hR7)).trans hR7
        have HWC8 : Hid (WL ≠ [] → ∃ b off, mA = some ⟨b, off, none⟩ ∧ b < W8.heap.size ∧ ∀ j (h : j < WL.length) i u, (ff WL[j])[i]? = some u → W8.cell? ⟨b, off + j * 2 + i, none⟩ = some u) := Lib.hid (by rw [hW8]; exact HWC.out)
        have hB8 := Lib.hid (below_via hB7.out hdB)
        replace H1 := Lib.hid (fun wx (hb : Below W8.heap.size W8 wx) => H1.out wx (below_via hdB hb))
        replace H2 := Lib.hid (fun wx (hb : Below W8.heap.size W8 wx) => H2.out wx (below_via hdB hb))
        replace H3 := Lib.hid (fun he wx (hb : Below W8.heap.size W8 wx) => H3.out he wx (below_via hdB hb))
        clear hwr hWL hdB hW8 HWC x0 x1 x2 x3 r0 r1 r2 hX7 hR7 hB7 HNC
        obtain ⟨x0, x1, x2, x3⟩ := cells2 hX8
        obtain ⟨r0, r1, r2, _, _, _⟩ := cells3 hR8
        go_upto_block 4 with fail
        go_cut [18] (fun q wx => ∃ d, q = .bool (wrote M on) ∧ wx = W8.drewN d)
        case first =>
          as_aux_lemma =>
            go_wp2_with fail
            go_loopw [18, 20] (fun q i wx => ∃ k d : Nat, k ≤ WL.length ∧ i = .int .i64 k ∧ q = .bool ((WL.take k).any fun m => m.1 == on) ∧ wx = W8.drewN d) (fun _ i _ => WL.length - (RowKit.intOf i).toNat)
            case atStart => exact ⟨0, 0, Nat.zero_le _, rfl, by simp, rfl⟩
            case round =>
              obtain ⟨k, d, hk, rfl, rfl, rfl⟩ := hrel
              rw [hhl] at hk
              have HLE := Lib.hid hhl
              by_cases hkt : k < hf
              · have hkw : k < WL.length := by omega
                obtain ⟨b, off, rfl, hbl, hcc⟩ := HWC8.out (by rintro rfl; simp at hkw)
                obtain ⟨k2, k3⟩ := ff_cells (fun i u hu => hcc k hkw i u hu)
                have HL := Lib.hid (any_take2 WL k on hkw)
                generalize WL[k] = x at *
                obtain ⟨x, xt⟩ := x
                simp only at k2 k3
                have i0 : (0 : Int) ≤ (k : Int) := by omega
                have i1 : (k : Int) < (hf : Int) := by omega
                clear hcc hhl
                generalize ((WL.take k).any fun m => m.1 == on) = q at *
                cases q with
                | true =>
                  go_wp2_with fail
                  go_quiet (fail)
                  go_wp2_with fail
                  go_roundw
                  case rel => exact ⟨k + 1, _, by have := HLE.out; omega, by go_num, by rw [HL.out]; rfl, by first | rfl | exact World.drewN_drewN _ _ _⟩
                  case measure => have := HLE.out; simp [RowKit.intOf]; omega
                | false =>
                  have hbe : ((bs x).toList == (bs on).toList) = (x == on) := by rw [toListB, toListB]
                  go_wp2_with fail
                  go_quiet (fail)
                  go_wp2_with fail
                  go_roundw
                  case rel => exact ⟨k + 1, _, by have := HLE.out; omega, by go_num, by rw [HL.out]; rfl, by first | rfl | exact World.drewN_drewN _ _ _⟩
                  case measure => have := HLE.out; simp [RowKit.intOf]; omega
              · obtain rfl : k = hf := by omega
                clear hhl
                go_wp2_with fail
                go_meet
                exact ⟨d, by rw [HWR.out, List.take_of_length_le (by have := HLE.out; omega)], rfl⟩
        case rest =>
          obtain ⟨d, rfl, rfl⟩ := hcut
          have hdB := below_of_drewN (B := W8.heap.size) (a := W8) d
          obtain ⟨W9, hW9⟩ : ∃ W, W = W8.drewN d := ⟨_, rfl⟩
          rw [← hW9] at hdB ⊢
          have hX9 := (hdB.block X (lt_of_block hX8)).trans hX8
          have hR9 := (hdB.block R (lt_of_block hR8)).trans hR8
          have hB9 := Lib.hid (below_via hB8.out hdB)
          replace H1 := Lib.hid (fun wx (hb : Below W9.heap.size W9 wx) => H1.out wx (below_via hdB hb))
          replace H2 := Lib.hid (fun wx (hb : Below W9.heap.size W9 wx) => H2.out wx (below_via hdB hb))
          replace H3 := Lib.hid (fun he wx (hb : Below W9.heap.size W9 wx) => H3.out he wx (below_via hdB hb))
          clear hdB hW9 HWC8 x0 x1 x2 x3 r0 r1 r2 hX8 hR8 hB8 HWR hhl
          have HXC := Lib.hid (fun wx (hb : Below W9.heap.size W9 wx) => cells2 ((hb.block X (lt_of_block hX9)).trans hX9))
          have HRC := Lib.hid (fun wx (hb : Below W9.heap.size W9 wx) => cells3 ((hb.block R (lt_of_block hR9)).trans hR9))
          generalize has NS on = q1 at *
          generalize wrote M on = q2 at *
          generalize hgf : Rc.getF M on = gf at *
          obtain ⟨gt, gi⟩ := gf
          simp only at H2 H3
          clear hgf
          go_upto_region 21 with fail
          go_cut [145] (fun b wx => b = .bool false ∧ Below W9.heap.size W9 wx)
          case first =>
            as_aux_lemma =>
              obtain ⟨r0, r1, r2, _, _, _⟩ := HRC.out _ (Below.refl _ _)
              have H1' := H1.out _ (Below.refl _ _)
              cases q1 <;> cases q2 <;> cases gi
              all_goals
                go_wp2_with fail
                refine H1'.mono ?_
                rintro e w10 ⟨rfl, b10⟩
                obtain ⟨s0, s1, s2, _, _, _⟩ := HRC.out _ b10
                have H2' := H2.out _ b10
                go_wp2_with fail
                refine H2'.mono ?_
                rintro e w11 ⟨rfl, b11⟩
                go_wp2_with fail
                go_meet
                exact ⟨rfl, below_via b10 b11⟩
          case rest =>
            obtain ⟨rfl, hb10⟩ := hcut
            obtain ⟨w10, hw10⟩ : ∃ w10, w10 = wc := ⟨_, rfl⟩
            subst hw10
            obtain ⟨y0, y1, y2, y3⟩ := HXC.out _ hb10
            go_upto_region 23 with fail
            go_cut [21] (fun b wx => b = .bool ((gi && gt == tt) || (!q1 && !q2)) ∧ w10 = wx)
            case first =>
              as_aux_lemma =>
                have hbe : ((bs gt).toList == (bs tt).toList) = (gt == tt) := by rw [toListB, toListB]
                generalize hq : (gt == tt) = q3 at *
                clear hq H2 H3
                cases gi <;> cases q1 <;> cases q2 <;> cases q3
                all_goals
                  go_wp2_with fail
                  go_meet
                  exact ⟨rfl, rfl⟩
            case rest =>
              obtain ⟨rfl, rfl⟩ := hcut
              obtain ⟨s0, s1, s2, _, _, _⟩ := HRC.out _ hb10
              have HFX := Lib.hid (fun wx (hb : Below W9.heap.size W9 wx) => fixed_any wx (HG.out.below (below_via hB9.out hb)))
              by_cases he : putE M (on, tt) = 0
              · have H3' := H3.out he _ hb10
                rw [he]
                clear he H2 H3 y0 y1 y2 y3
                generalize (gi && gt == tt || !q1 && !q2) = Q at *
                cases Q
                all_goals
                  go_wp2_with fail
                  refine H3'.mono ?_
                  rintro e w11 ⟨rfl, b11⟩
                  have hb11 := below_via hb10 b11
                  go_wp2_with fail
                  refine (HFX.out _ hb11).mono ?_
                  rintro e w12 ⟨rfl, b12⟩
                  go_wp2_with fail
                  go_ret
                  exact ⟨rfl, below_via hB9.out (below_via hb11 b12)⟩
              · have hpe : (((putE M (on, tt) : Nat) : Int) != 0) = true := by
                  have : ((putE M (on, tt) : Nat) : Int) ≠ 0 := by omega
                  simpa using this
                have hpe2 : (((putE M (on, tt) : Nat) : Int) == 0) = false := by
                  have : ((putE M (on, tt) : Nat) : Int) ≠ 0 := by omega
                  simpa using this
                clear he H2 H3 y0 y1 y2 y3
                generalize putE M (on, tt) = pe at *
                generalize (gi && gt == tt || !q1 && !q2) = Q at *
                go_wp2_with fail
                refine (HFX.out _ hb10).mono ?_
                rintro e w12 ⟨rfl, b12⟩
                go_wp2_with fail
                go_ret
                exact ⟨rfl, below_via hB9.out (below_via hb10 b12)⟩
end Go.Proofs.YtiogmegdkfnkkaaDoor
