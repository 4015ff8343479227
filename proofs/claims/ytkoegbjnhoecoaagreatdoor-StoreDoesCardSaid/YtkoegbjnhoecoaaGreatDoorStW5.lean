/- store.Open. -/
import Derived.Test.YtkoegbjnhoecoaaGreatDoorStW4
namespace Go.Proofs.YtkoegbjnhoecoaaGreatDoor
open Go.RowKit Tx

theorem puts_nil (f : Int → Option Dk.Wr) : Dk.puts f [] = f := rfl
theorem at_nil (d : Dk.St) (h : d.pend = []) (i : Int) : Dk.at_ d i = Sq.sect d.held i := by
  unfold Dk.at_ Sq.sect
  rw [h, puts_nil]
  cases d.held i <;> rfl
theorem read_nil (d : Dk.St) (h : d.pend = []) (i : Nat) (hi : (i : Int) < d.n) : Dk.read d i = (Sq.sect d.held i, 0) := by
  have : Dk.has d (i : Int) = true := by unfold Dk.has; simp [hi]
  unfold Dk.read
  rw [this, at_nil d h]
  simp
theorem open_small {B : Nat} {w0 w : World} {bd : Nat} {d : Dk.St} {R : List Nat} (h : Dk.InR B w0 w bd d R) (hn : d.n < 4) :
    Calls Tryz.prog 18 #[.pointer (some ⟨bd, 0, none⟩)] w fun e w' => e = .returned (.tuple #[.pointer none, .int .i64 1]) ∧ w = w' := by
  have HL := Lib.hid (len_in h.to_in)
  obtain ⟨n, hn'⟩ : ∃ n, n = d.n := ⟨_, rfl⟩
  rw [← hn'] at HL hn
  clear h hn'
  go_enter Tryz.func18, Tryz.ntmps18
  go_wp2_with fail
  refine HL.out.mono ?_
  rintro e w1 ⟨rfl, rfl⟩
  go_wp2_with fail
  go_ret2
  exact ⟨rfl, rfl⟩
/-- What Open leaves. -/
def OpenPost (B : Nat) (w0 w : World) (bd : Nat) (d : Dk.St) (h0 h1 : Sq.Head) (l : List Wr.F) (R : List Nat) (e : Ending) (w' : World) : Prop :=
  ∃ sb R', e = .returned (.tuple #[.pointer (some ⟨sb, 0, none⟩), .int .i64 0]) ∧ StIn B w0 w' bd d sb h0 h1 l R' ∧ w.heap.size ≤ sb ∧ (∀ k ∈ R, k ∈ R') ∧ Below w.heap.size w w'
theorem size_in {n : Nat} {T : Bs} {k : Nat} (hk : k ≤ Sq.cnt T) (hr : T.length ≤ 64 * Sq.half n) : k < Sq.cnt T ↔ (T.take (64 * k)).length < T.length := by
  simp only [List.length_take]
  unfold Sq.cnt at *
  omega
theorem bytes_chunk (T : Bs) (k : Nat) : Lib.byteCells (T.take (64 * k)) ++ Lib.strCells (bs (Sq.chunk T k)) = Lib.byteCells (T.take (64 * (k + 1))) := by
  rw [Sq.take_chunk, Lib.byteCells_append]
  rfl
set_option maxRecDepth 100000 in
set_option maxHeartbeats 8000000 in
theorem open_any {B : Nat} {w0 w : World} {bd : Nat} {d : Dk.St} {R : List Nat} (n : Nat) (h0 h1 : Sq.Head) (T : Bs) (h : Dk.InR B w0 w bd d R) (hn : d.n = (n : Int)) (h4 : 4 ≤ n ∧ n ≤ 4096) (hp : d.pend = [])
    (hG : Sq.Good n d.held h0 h1 T) (c0 : h0.1 ≤ 1000000000 ∧ h0.2 ≤ 1000000000) (c1 : h1.1 ≤ 1000000000 ∧ h1.2 ≤ 1000000000) (hg : Gl w) :
    Calls Tryz.prog 18 #[.pointer (some ⟨bd, 0, none⟩)] w (OpenPost B w0 w bd d h0 h1 (parL T) R) := by
  have HL := Lib.hid (fun wx (hb : Below w.heap.size w wx) => hn ▸ len_in ((h.below hb).1.to_in))
  have HRD := Lib.hid (fun (i : Nat) (hi : i < n) wx (hb : Below w.heap.size w wx) => read_in (Sq.sect d.held i, 0) i ((h.below hb).1.to_in) (by rw [hp]; simp) (WalkArith.wf_i64 (by omega)) (read_nil d hp i (by rw [hn]; omega)))
  have HH := Lib.hid h
  have HG := Lib.hid hG
  have HGL := Lib.hid hg
  have HHA := Lib.hid (half_any n h4)
  have hql := half_le n h4.2
  have hroom := hG.room
  have HQ : Hid (Sq.half n = (n - 2) / 2) := Lib.hid rfl
  have HC0 := Lib.hid c0
  have HC1 := Lib.hid c1
  have n4 : ¬ ((n : Int) < 4) := by omega
  clear hn hp hG hg h c0 c1
  obtain ⟨sb, hsb⟩ : ∃ sb, sb = w.heap.size := ⟨_, rfl⟩
  obtain ⟨W, hW⟩ : ∃ W, W = w.alloc (.cells #[.pointer (some ⟨bd, 0, none⟩), .int .i64 0, .int .i64 0, .int .i64 0, .int .i64 0, .slice none 0 0] 60) := ⟨_, rfl⟩
  have hb0 : Below w.heap.size w W := by rw [hW]; exact (Below.refl _ _).alloc (Nat.le_refl _) _
  have hWb : W.heap[sb]? = some (SBlk bd (0, 0) (0, 0) (.slice none 0 0)) := by rw [hW, hsb]; exact heap_alloc_new _ _
  have HSB := Lib.hid hsb
  go_enter Tryz.func18, Tryz.ntmps18
  go_wp2_with fail
  refine (HL.out w (Below.refl _ _)).mono ?_
  rintro e w1 ⟨rfl, rfl⟩
  go_upto_block 0 with fail
  rw [← hW, ← hsb]
  clear hW hsb
  go_cut [] (fun wx => Below w.heap.size w wx ∧ wx.heap[sb]? = some (SBlk bd h0 h1 (.slice none 0 0)))
  case first =>
    go_wp2_with fail
    go_loopw [21] (fun i wr => ∃ k : Nat, k ≤ 2 ∧ i = .int .i64 k ∧ Below w.heap.size w wr ∧ wr.heap[sb]? = some (SBlk bd (if 1 ≤ k then h0 else (0, 0)) (if 2 ≤ k then h1 else (0, 0)) (.slice none 0 0))) (fun i _ => 2 - (RowKit.intOf i).toNat)
    case atStart => exact ⟨0, by omega, rfl, hb0, by simpa using hWb⟩
    case round =>
      clear hb0 hWb
      obtain ⟨k, hk, rfl, hbel, hblk⟩ := hrel
      rcases (by omega : k = 0 ∨ k = 1 ∨ k = 2) with rfl | rfl | rfl
      · -- sector 0
        have hBr : wr.heap[sb]? = some (SBlk bd (0, 0) (0, 0) (.slice none 0 0)) := by simpa using hblk
        have hslt : sb < wr.heap.size := lt_of_block hBr
        have hr1 := HRD.out 0 (by omega) wr hbel
        have HRR := Lib.hid (fun wx (hb : Below w.heap.size w wx) => read_any _ h0 HG.out.hd0 HC0.out.1 HC0.out.2 wx (HGL.out.below hb))
        simp only [Int.ofNat_zero, Int.ofNat_one, Int.natCast_zero, Int.natCast_one] at hr1 ⊢
        generalize Sq.sect d.held 0 = tk at *
        clear hblk
        go_wp2_with fail
        refine hr1.mono ?_
        rintro e w2 ⟨rfl, b2⟩
        have hB2 := (b2.block sb hslt).trans hBr
        have hbel2 : Below w.heap.size w w2 := below_via hbel b2
        have H3 := HRR.out w2.drew hbel2.drew
        clear hBr b2 hbel hr1
        go_upto_region 8 with fail
        go_region_held3 (fun _ => True) (go_keep) (first
          | (go_at_call 39; refine H3.mono ?_; rintro e w3 ⟨rfl, b3⟩; have hB3 := (b3.block sb (lt_of_block hB2)).trans hB2; have hbel3 : Below w.heap.size w w3 := below_via hbel2.drew b3; have q1 : w3.cell? ⟨sb, 1, none⟩ = some (.int .i64 0) := (by rw [Lib.cell_of_heap hB3]; rfl); have q2 : w3.frozen? ⟨sb, 1, none⟩ = false := Lib.frozen_of_heap hB3 1; have q3 : ∀ v, (w3.setCell ⟨sb, 1, none⟩ v).cell? ⟨sb, 2, none⟩ = some (.int .i64 0) := (fun v => by rw [Lib.cell_of_heap (wr_cells_set (j := 1) hB3 v)]; rfl); have q4 : ∀ v, (w3.setCell ⟨sb, 1, none⟩ v).frozen? ⟨sb, 2, none⟩ = false := (fun v => Lib.frozen_of_heap (wr_cells_set (j := 1) hB3 v) 2); dsimp only))
        go_wp2_with fail
        go_roundw
        case rel => exact ⟨1, by omega, by go_num, (hbel3.setCell (p := ⟨sb, 1, none⟩) (by rw [HSB.out]; exact Nat.le_refl _) _).setCell (p := ⟨sb, 2, none⟩) (by rw [HSB.out]; exact Nat.le_refl _) _, by simpa [SBlk] using wr_cells_set (j := 2) (wr_cells_set (j := 1) hB3 (.int .i64 h0.1)) (.int .i64 h0.2)⟩
        case measure => simp [RowKit.intOf]
      · -- sector 1
        have hBr : wr.heap[sb]? = some (SBlk bd h0 (0, 0) (.slice none 0 0)) := by simpa using hblk
        have hslt : sb < wr.heap.size := lt_of_block hBr
        have hr1 := HRD.out 1 (by omega) wr hbel
        have HRR := Lib.hid (fun wx (hb : Below w.heap.size w wx) => read_any _ h1 HG.out.hd1 HC1.out.1 HC1.out.2 wx (HGL.out.below hb))
        simp only [Int.ofNat_zero, Int.ofNat_one, Int.natCast_zero, Int.natCast_one] at hr1 ⊢
        generalize Sq.sect d.held 1 = tk at *
        clear hblk
        go_wp2_with fail
        refine hr1.mono ?_
        rintro e w2 ⟨rfl, b2⟩
        have hB2 := (b2.block sb hslt).trans hBr
        have hbel2 : Below w.heap.size w w2 := below_via hbel b2
        have H3 := HRR.out w2.drew hbel2.drew
        clear hBr b2 hbel hr1
        go_upto_region 8 with fail
        go_region_held3 (fun _ => True) (go_keep) (first
          | (go_at_call 39; refine H3.mono ?_; rintro e w3 ⟨rfl, b3⟩; have hB3 := (b3.block sb (lt_of_block hB2)).trans hB2; have hbel3 : Below w.heap.size w w3 := below_via hbel2.drew b3; have q1 : w3.cell? ⟨sb, 3, none⟩ = some (.int .i64 0) := (by rw [Lib.cell_of_heap hB3]; rfl); have q2 : w3.frozen? ⟨sb, 3, none⟩ = false := Lib.frozen_of_heap hB3 3; have q3 : ∀ v, (w3.setCell ⟨sb, 3, none⟩ v).cell? ⟨sb, 4, none⟩ = some (.int .i64 0) := (fun v => by rw [Lib.cell_of_heap (wr_cells_set (j := 3) hB3 v)]; rfl); have q4 : ∀ v, (w3.setCell ⟨sb, 3, none⟩ v).frozen? ⟨sb, 4, none⟩ = false := (fun v => Lib.frozen_of_heap (wr_cells_set (j := 3) hB3 v) 4); dsimp only))
        go_wp2_with fail
        go_roundw
        case rel => exact ⟨2, by omega, by go_num, (hbel3.setCell (p := ⟨sb, 3, none⟩) (by rw [HSB.out]; exact Nat.le_refl _) _).setCell (p := ⟨sb, 4, none⟩) (by rw [HSB.out]; exact Nat.le_refl _) _, by simpa [SBlk] using wr_cells_set (j := 4) (wr_cells_set (j := 3) hB3 (.int .i64 h1.1)) (.int .i64 h1.2)⟩
        case measure => simp [RowKit.intOf]
      · have hBr : wr.heap[sb]? = some (SBlk bd h0 h1 (.slice none 0 0)) := by simpa using hblk
        clear hblk
        go_wp2_with fail
        go_meet
        exact ⟨hbel, hBr⟩
  case rest =>
    obtain ⟨hbel, hblk⟩ := hcut
    clear hb0 hWb
    obtain ⟨wd, hwd⟩ : ∃ wd, wd = wc := ⟨_, rfl⟩
    subst hwd
    have hnow := now_any sb bd h0 h1 (.slice none 0 0) wd hblk
    have ha1 := Sq.now_le h0 h1
    have HCUR : Hid ((Sq.now h0 h1 = 0 ∧ Sq.cur h0 h1 = h0) ∨ (Sq.now h0 h1 = 1 ∧ Sq.cur h0 h1 = h1)) := Lib.hid (by rcases Sq.now_two h0 h1 with e | e <;> rw [Sq.cur_now, e] <;> simp)
    have HSZ := Lib.hid HG.out.size
    have HDATA := Lib.hid HG.out.data
    have HFR : Hid (∀ k, Sq.from_ n (Sq.now h0 h1) + k = 2 + Sq.now h0 h1 * Sq.half n + k) := Lib.hid (fun _ => rfl)
    generalize Sq.now h0 h1 = a at *
    generalize Sq.cur h0 h1 = cu at *
    go_wp2_with fail
    refine hnow.mono ?_
    rintro e w2 ⟨rfl, nq, hw2⟩
    have hB2 : w2.heap[sb]? = some (SBlk bd h0 h1 (.slice none 0 0)) := by rw [hw2]; exact hblk
    have hbel2 : Below w.heap.size w w2 := by rw [hw2]; exact hbel.trans ((below_of_drewN (a := wd) (B := wd.heap.size) nq).mono hbel.size)
    clear hw2 hnow hblk hbel
    obtain ⟨bb, hbb⟩ : ∃ bb, bb = w2.heap.size := ⟨_, rfl⟩
    obtain ⟨W2, hW2⟩ : ∃ W2, W2 = w2.alloc (.cells #[.pointer none, .slice none 0 0] 88) := ⟨_, rfl⟩
    have hfresh : BAt bb bb (.slice none 0 0) [] W2 := by rw [hbb, hW2]; exact BAt.fresh w2
    have hb2 : Below w.heap.size w W2 := by rw [hW2]; exact hbel2.alloc hbel2.size _
    have hsbb : sb < bb := by rw [hbb]; exact lt_of_block hB2
    have hB3 : W2.heap[sb]? = some (SBlk bd h0 h1 (.slice none 0 0)) := by rw [hW2]; exact (Below.heap_alloc _ _ _ (lt_of_block hB2)).trans hB2
    have hbbw : w.heap.size ≤ bb := by rw [hbb]; exact hbel2.size
    go_wp2_with fail
    rw [← hW2, ← hbb]
    clear hW2 hbb hB2 hbel2
    obtain ⟨q, hq⟩ : ∃ q, q = Sq.half n := ⟨_, rfl⟩
    rw [← hq] at hql hroom HQ HHA
    have HQE := Lib.hid hq
    obtain ⟨f, hf⟩ : ∃ f, f = a * q := ⟨_, rfl⟩
    have hfl : f ≤ q := by rw [hf]; rcases (by omega : a = 0 ∨ a = 1) with rfl | rfl <;> simp
    have v1 : IntKind.i64.wrap ((a : Int) * (q : Int)) = (f : Int) := by rw [hf, IntWalk.i64_in _ (by rcases (by omega : a = 0 ∨ a = 1) with rfl | rfl <;> simp <;> omega)]; simp
    have HF := Lib.hid hf
    have v2 : IntKind.i64.wrap (2 + (f : Int)) = ((2 + f : Nat) : Int) := by rw [IntWalk.i64_in _ (by omega)]; omega
    obtain ⟨F, hF⟩ : ∃ F, F = 2 + f := ⟨_, rfl⟩
    rw [← hF] at v2
    have hFl : F ≤ 3000 := by omega
    have HFE := Lib.hid hF
    clear hq hf hF
    have a0 : (0 : Int) ≤ (a : Int) := by omega
    have a2 : (a : Int) < 2 := by omega
    go_loopw [10] (fun i wr => ∃ (k : Nat) (v : Value), k ≤ Sq.cnt T ∧ i = .int .i64 k ∧ BAt bb bb v (Lib.byteCells (T.take (64 * k))) wr ∧ Below w.heap.size w wr ∧ wr.heap[sb]? = some (SBlk bd h0 h1 (.slice none 0 0))) (fun i _ => Sq.cnt T - (RowKit.intOf i).toNat)
    case atStart => exact ⟨0, _, Nat.zero_le _, rfl, by simpa [Lib.byteCells] using hfresh, hb2, hB3⟩
    case round =>
      clear hfresh hb2 hB3
      obtain ⟨k, v, hk, rfl, hbu, hbel, hblk⟩ := hrel
      have hle := hbel.size
      have hsz := size_in (n := n) hk (by rw [← HQE.out]; exact hroom)
      have hlen : (Lib.byteCells (T.take (64 * k))).length = (T.take (64 * k)).length := Lib.byteCells_length _
      have HLEN := Lib.hid (Tryz.Builder_Len bb bb _ wr.drew hbu.is)
      rw [hlen] at HLEN
      have hcntl : Sq.cnt T ≤ 2047 := by have := Sq.cnt_le (n := n) (T := T) (by rw [← HQE.out]; exact hroom); rw [← HQE.out] at this; omega
      have hml : (T.take (64 * k)).length ≤ T.length := by simp; omega
      have d1 : wr.cell? ⟨sb, 1 + a * 2 + 1, none⟩ = some (.int .i64 cu.2) := by
        obtain ⟨_, _, e2, _, e4, _, _⟩ := sblk_cells hblk
        rcases HCUR.out with ⟨rfl, rfl⟩ | ⟨rfl, rfl⟩
        · exact e2
        · exact e4
      rw [← HSZ.out] at d1
      have HMT : Hid (T.take (64 * Sq.cnt T) = T) := Lib.hid (List.take_of_length_le (by unfold Sq.cnt; omega))
      generalize hm : (T.take (64 * k)).length = m at *
      clear hlen hm
      by_cases hlt : k < Sq.cnt T
      · have hmt : (m : Int) < (T.length : Int) := by have := hsz.1 hlt; omega
        obtain ⟨G, hG⟩ : ∃ G, G = F + k := ⟨_, rfl⟩
        have hGn : G < n := by have := HQ.out; have := HFE.out; have := Sq.cnt_le (n := n) (T := T) (by rw [← HQE.out]; exact hroom); rw [← HQE.out] at this; omega
        have hGe : Sq.from_ n a + k = G := by rw [HFR.out, hG, HFE.out, HF.out, ← HQE.out]
        have hdt := HDATA.out k hlt
        rw [hGe] at hdt
        have v3 : IntKind.i64.wrap ((F : Int) + (k : Int)) = (G : Int) := by rw [hG, IntWalk.i64_in _ (by omega)]; simp
        have v4 : IntKind.i64.wrap ((k : Int) + 1) = ((k + 1 : Nat) : Int) := by rw [IntWalk.i64_in _ (by omega)]; simp
        have hrd := fun wx hb => HRD.out G hGn wx hb
        rw [hdt] at hrd
        have HRDG := Lib.hid hrd
        have HCH := Lib.hid (bytes_chunk T k)
        have hchl := Sq.chunk_len T k
        have hbl : (Lib.byteCells (T.take (64 * k))).length ≤ 131072 := by rw [Lib.byteCells_length]; simp; omega
        have HBU := Lib.hid hbu
        have HBL := Lib.hid hbel
        have hblt := hbu.lt
        have hvb : v.ownBlock ≠ some sb := fun e => by
          obtain ⟨_, p, hp, h2, h3, h4⟩ := hbu
          have := (h3.lt sb e).1
          omega
        generalize Sq.chunk T k = ck at *
        clear hGe hdt hG hrd hsz
        clear hbu hbel
        go_wp2_with fail
        go_region_held3 (fun wx => wx.cell? ⟨sb, 1 + a * 2 + 1, none⟩ = some (.int .i64 T.length)) (go_keep) (first
          | (go_at_call 40; refine HLEN.out.mono ?_; rintro e x1 ⟨rfl, rfl⟩; dsimp only))
        go_wp2_with fail
        refine (HL.out wr.drew HBL.out.drew).mono ?_
        rintro e x2 ⟨rfl, rfl⟩
        go_wp2_with fail
        refine (HHA.out _).mono ?_
        rintro e x3 ⟨rfl, rfl⟩
        go_wp2_with fail
        refine (HRDG.out wr.drew HBL.out.drew).mono ?_
        rintro e x4 ⟨rfl, b4⟩
        have b4' : Below wr.heap.size wr x4 := (Below.refl wr.heap.size wr).drew.trans b4
        have HBU4 := Lib.hid (HBU.out.below b4')
        have hB4 := (b4'.block sb (lt_of_block hblk)).trans hblk
        have hsb4 := lt_of_block hB4
        have HB4 := Lib.hid (HBL.out.trans (b4'.mono hle))
        have hbb4 : bb ≤ x4.heap.size := Nat.le_of_lt (Nat.lt_of_lt_of_le hblt.1 b4'.size)
        clear b4 b4' hblk d1
        go_wp2_with fail
        refine (writeString_at bb bb v (Lib.byteCells (T.take (64 * k))) (bs ck) x4 HBU4.out (by rw [bs_size]; omega) hbb4).mono ?_
        rintro e x5 ⟨rfl, ⟨v', hv'⟩, b5, hoth⟩
        have HV5 := Lib.hid hv'
        have HB5 := Lib.hid (HB4.out.trans (b5.mono hbbw))
        have HX5 := Lib.hid ((hoth sb hsb4 (by omega) hvb).trans hB4)
        clear hv' b5 hoth hB4
        go_wp2_with fail
        go_roundw
        case rel => exact ⟨k + 1, v', by omega, rfl, by rw [← HCH.out]; exact HV5.out, HB5.out, HX5.out⟩
        case measure => simp [RowKit.intOf]; omega
      · obtain rfl : k = Sq.cnt T := by omega
        have hmt : ¬ (m : Int) < (T.length : Int) := by have := fun hx => hlt (hsz.2 hx); omega
        rw [HMT.out] at hbu
        have HBU := Lib.hid hbu
        have HBL := Lib.hid hbel
        have HST := Lib.hid (Tryz.Builder_String_any bb bb T wr.drew hbu.is (by have := hbu.lt.1; show bb ≤ wr.heap.size; omega))
        have hTl : T.length ≤ 1000000 := by omega
        have hblt := hbu.lt.1
        clear hbu hbel hsz
        go_wp2_with fail
        go_region_held3 (fun wx => wx.cell? ⟨sb, 1 + a * 2 + 1, none⟩ = some (.int .i64 T.length)) (go_keep) (first
          | (go_at_call 40; refine HLEN.out.mono ?_; rintro e x1 ⟨rfl, rfl⟩; dsimp only))
        go_wp2_with fail
        refine HST.out.mono ?_
        rintro e x2 ⟨rfl, b2⟩
        have hB2 := (b2.block sb hsbb).trans (show wr.drew.heap[sb]? = _ from hblk)
        have HB2 := Lib.hid (HBL.out.drew.trans (b2.mono hbbw))
        clear b2 hblk d1
        go_wp2_with fail
        refine (wParse_new T x2 hTl (HGL.out.below HB2.out)).mono ?_
        rintro e x3 ⟨b3, fv, rfl, hrow, hnil, hnew⟩
        have hB3 := (b3.block sb (lt_of_block hB2)).trans hB2
        have HB3 := Lib.hid (below_via HB2.out b3)
        have hb3s := b3.size
        have hsb2 := lt_of_block hB2
        obtain ⟨_, _, _, _, _, e5, fz⟩ := sblk_cells hB3
        have f5 := fz 5
        have HROW := Lib.hid hrow
        have HNIL := Lib.hid hnil
        have HNEW := Lib.hid hnew
        obtain ⟨pA, pn, pc, rfl⟩ : ∃ A n c, fv = .slice A n c := by obtain ⟨A, c, h, _⟩ := hrow.shape; exact ⟨A, _, c, h⟩
        clear hrow hnil hnew b3 fz hB2
        go_wp2_with fail
        go_ret2
        have hsbw : w.heap.size ≤ sb := by rw [HSB.out]; exact Nat.le_refl _
        have hB9 : Below w.heap.size w (x3.setCell ⟨sb, 5, none⟩ (.slice pA pn pc)) := HB3.out.setCell (p := ⟨sb, 5, none⟩) hsbw _
        have hs9 : (x3.setCell ⟨sb, 5, none⟩ (.slice pA pn pc)).heap.size = x3.heap.size := World.size_setCell _ _ _
        refine ⟨sb, sb :: ((Value.slice pA pn pc).ownBlock.toList ++ R), rfl, ⟨HH.out.turn (Moved.of_below hB9 _) (fun k hk => ?_), by simp, .slice pA pn pc, ?_, ?_, HNIL.out, fun k hk => ?_⟩, hsbw, fun k hk => by simp [hk], hB9⟩
        · rw [hs9]
          simp only [List.mem_cons, List.mem_append, Option.mem_toList] at hk
          rcases hk with rfl | hk | hk
          · exact ⟨.inr hsbw, by omega⟩
          · have := HNEW.out k hk
            exact ⟨.inr (by have := HB2.out.size; omega), this.2⟩
          · exact ⟨.inl hk, Nat.lt_of_lt_of_le (HH.out.2.2.1 k hk).1 HB3.out.size⟩
        · simpa [SBlk] using wr_cells_set (j := 5) hB3 (.slice pA pn pc)
        · refine rowC_blk HROW.out (by rw [hs9]; exact Nat.le_refl _) (fun b hb _ => Below.heap_setCell _ _ _ _ (fun e => ?_))
          have := (HNEW.out b hb).1
          simp only at e
          omega
        · have := HNEW.out k hk
          exact ⟨by simp [hk], by omega⟩
end Go.Proofs.YtkoegbjnhoecoaaGreatDoor
