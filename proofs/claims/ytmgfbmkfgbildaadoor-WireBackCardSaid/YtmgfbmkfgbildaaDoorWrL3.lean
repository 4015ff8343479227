/- The walk of stetlaw03.WireBack. -/
import Derived.Test.YtmgfbmkfgbildaaDoorWrL1
namespace Go.Proofs.YtmgfbmkfgbildaaDoor
open Go.RowKit Tx

theorem cut60 (t : Bs) : (t.take 60).length ≤ 60 := List.length_take_le _ _
theorem take_map_step {α β : Type} (f : α → β) (l : List α) (k : Nat) (h : k < l.length) : (l.take (k + 1)).map f = (l.take k).map f ++ [f l[k]] := by
  rw [List.take_succ_eq_append_getElem h, List.map_append]; rfl
theorem puts_cons (x : Wr.Bs) (l : List Wr.Bs) : Wr.puts (x :: l) = Wr.put x ++ Wr.puts l := by simp [Wr.puts]
theorem puts_append (a b : List Wr.Bs) : Wr.puts (a ++ b) = Wr.puts a ++ Wr.puts b := by simp [Wr.puts]
theorem puts_small (l : List Wr.Bs) (h : ∀ x ∈ l, x.length ≤ 60) : (Wr.puts l).length ≤ 72 * l.length := by
  induction l with
  | nil => simp [Wr.puts]
  | cons x l ih =>
    have h1 := h x (by simp)
    have h2 := ih (fun y hy => h y (by simp [hy]))
    have h3 : (Wr.put x).length ≤ 72 := by
      have := dig_len x.length (by omega)
      simp [Wr.put]
      omega
    rw [show Wr.puts (x :: l) = Wr.put x ++ Wr.puts l by simp [Wr.puts]]
    simp
    omega
/-- The text at its place. -/
theorem back_get (ah : Bs) (M : List Wr.Bs) (i : Nat) (hi : i < M.length) (hM : ∀ x ∈ M, x.length ≤ 60) :
    getR (ah ++ Wr.puts M) ((ah ++ Wr.puts (M.take i)).length : Nat) 60 = .ok (M[i], (ah ++ Wr.puts (M.take i)).length + (Wr.put M[i]).length) := by
  have e : Wr.puts M = Wr.puts (M.take i) ++ (Wr.put M[i] ++ Wr.puts (M.drop (i + 1))) := by
    conv => lhs; rw [← List.take_append_drop i M, List.drop_eq_getElem_cons hi, puts_append]
    rw [puts_cons]
  have hle : (ah ++ Wr.puts (M.take i)).length ≤ (ah ++ Wr.puts M).length := by
    rw [e]; simp
  have hd : (ah ++ Wr.puts M).drop (ah ++ Wr.puts (M.take i)).length = Wr.put M[i] ++ Wr.puts (M.drop (i + 1)) := by
    rw [e, ← List.append_assoc ah]
    exact List.drop_left
  have h60 := hM M[i] (List.getElem_mem hi)
  rw [getR_at hle, hd]
  have hg := Wr.get1_put M[i] (Wr.puts (M.drop (i + 1))) 60 h60 (by omega)
  rw [show ((60 : Int)).toNat = 60 from rfl, hg]
  have hl : (ah ++ Wr.puts M).length = (ah ++ Wr.puts (M.take i)).length + (Wr.put M[i]).length + (Wr.puts (M.drop (i + 1))).length := by
    rw [e]; simp; omega
  simp only
  rw [hl]
  congr 2
  omega

set_option maxRecDepth 100000 in
set_option maxHeartbeats 4000000 in
theorem wireBack_any (v : Value) (l : List Bs) (a1 : ByteArray) (w : World) (hg : Gl w) (hr : Row vs w w.heap.size v l) (hok : ∀ x ∈ l, x.length ≤ maxLen) (w1 : a1.size ≤ maxLen) :
    Calls Tryd.prog 5 #[v, .string a1] w fun e w' => e = .returned (.bool true) ∧ Below w.heap.size w w' := by
  obtain ⟨A, cap, rfl, c1, c2, c3⟩ := hr.shape
  obtain ⟨ah', rfl⟩ : ∃ l, a1 = bs l := ⟨_, (bs_of a1).symm⟩
  have hx := xext_minr ah' 60
  have hs := bs_size ah'
  simp only [maxLen] at w1
  have i1 : (0 : Int) ≤ min ((bs ah').size : Int) 60 := by omega
  have i2 : min ((bs ah').size : Int) 60 ≤ ((bs ah').size : Int) := by omega
  have hX : (ah'.take 60).length ≤ 60 := List.length_take_le _ _
  clear hs
  simp only [show ((60 : Nat) : Int) = 60 from rfl] at hx
  generalize ah'.take 60 = ah at *
  have HC := Lib.hid c3
  have OK := Lib.hid hok
  have HG := Lib.hid hg
  obtain ⟨n, hn⟩ : ∃ n, n = min l.length 12 := ⟨_, rfl⟩
  have hn12 : n ≤ 12 := by omega
  have hnl : n ≤ l.length := by omega
  have hnd : Hid (n = l.length ∨ n = 12) := Lib.hid (by omega)
  obtain ⟨M, hM⟩ : ∃ M : List Bs, M = (l.take n).map (·.take 60) := ⟨_, rfl⟩
  have hMl : M.length = n := by rw [hM]; simp; omega
  have hM60 : ∀ x ∈ M, x.length ≤ 60 := by
    intro x hx
    rw [hM] at hx
    obtain ⟨y, _, rfl⟩ := List.mem_map.1 hx
    exact cut60 y
  have HM := Lib.hid hM
  have HM60 := Lib.hid hM60
  have HPS := Lib.hid (puts_small M hM60)
  clear c3 hok hg hn hM hM60 hr
  have hmade : Txs w.heap.size (w.alloc (.cells #[] 9)) (.slice (some ⟨w.heap.size, 0, none⟩) 0 0) [] := World.ownsRow_made w #[] 0 (Nat.le_refl _) (by decide) (by simp)
  go_enter Tryd.func5, Tryd.ntmps5
  go_upto_block 0 with fail
  go_cut [5, 6] (fun s o wx => s = .string (bs (Wr.puts M)) ∧ Txs w.heap.size wx o M ∧ Below w.heap.size w wx)
  case first =>
    go_wp2_with fail
    go_loopw [5, 6, 7] (fun s o i wr => ∃ k : Nat, k ≤ n ∧ i = .int .i64 k ∧ s = .string (bs (Wr.puts ((l.take k).map (·.take 60)))) ∧ Txs w.heap.size wr o ((l.take k).map (·.take 60)) ∧ Below w.heap.size w wr) (fun _ _ i _ => n - (RowKit.intOf i).toNat)
    case atStart => exact ⟨0, Nat.zero_le _, rfl, rfl, hmade, (Below.refl _ _).alloc (Nat.le_refl _) _⟩
    case round =>
      clear hmade
      obtain ⟨k, hk, rfl, rfl, ho, hbel⟩ := hrel
      have hle := hbel.size
      by_cases hlt : k < n
      · have hkl : k < l.length := by omega
        obtain ⟨b, off, rfl, hbl, hc⟩ := HC.out (by rintro rfl; simp at hkl)
        have d0 := (hbel.cell (p := ⟨b, off + k, none⟩) hbl).trans (hc k hkl)
        have hxl := OK.out _ (List.getElem_mem hkl)
        have HS := Lib.hid (take_map_step (·.take 60) l k hkl)
        have hol : ((l.take k).map (·.take 60)).length ≤ 12 := by simp; omega
        have hps : (Wr.puts ((l.take k).map (·.take 60))).length ≤ 1000 := by
          have := puts_small ((l.take k).map (·.take 60)) (by
            intro x hx
            obtain ⟨y, _, rfl⟩ := List.mem_map.1 hx
            exact cut60 y)
          omega
        have hkI : (k : Int) < (l.length : Int) := by omega
        have hk12 : (k : Int) < 12 := by omega
        have hk0 : (0 : Int) ≤ (k : Int) := by omega
        generalize l[k] = x at *
        have hx60 := xext_minr x 60
        simp only [show ((60 : Nat) : Int) = 60 from rfl] at hx60
        simp only [maxLen] at hxl
        have hxs := bs_size x
        have j1 : (0 : Int) ≤ min ((bs x).size : Int) 60 := by omega
        have j2 : min ((bs x).size : Int) 60 ≤ ((bs x).size : Int) := by omega
        have hx6 := cut60 x
        generalize x.take 60 = y at *
        have HGr := Lib.hid (HG.out.below hbel)
        have HP := Lib.hid (fun w hg => wPut_any y w (by omega) hg)
        have hpl : (Wr.put y).length ≤ 72 := by
          have := dig_len y.length (by omega)
          simp [Wr.put]
          omega
        have HW : Hid (Wr.puts ((l.take (k + 1)).map (·.take 60)) = Wr.puts ((l.take k).map (·.take 60)) ++ Wr.put y) := Lib.hid (by rw [HS.out, puts_append]; simp [Wr.puts])
        generalize Wr.put y = py at *
        generalize Wr.puts ((l.take k).map (·.take 60)) = acc at *
        generalize (l.take k).map (·.take 60) = L at *
        obtain ⟨T, hT⟩ : ∃ T, T = acc ++ py := ⟨_, rfl⟩
        have o1 : bs acc ++ bs py = bs T := by rw [hT, bs_append]
        have p1 : ¬ (9223372036854775807 < (bs acc).size + (bs py).size) := by rw [bs_size, bs_size]; omega
        have p2 : (bs acc).size + (bs py).size ≤ 9223372036854775807 := by rw [bs_size, bs_size]; omega
        have HO := Lib.hid ho
        have HT := Lib.hid hT
        clear hc ho hT hxs
        go_wp2_with fail
        go_quiet (fail)
        go_wp2_with fail
        refine (HP.out _ (HGr.out.below (below_of_drewN _))).mono ?_
        rintro e x1 ⟨rfl, hb⟩
        have hb1 : Below w.heap.size w x1 := below_via (below_drewN hbel _) hb
        have hle1 := hb1.size
        have HO1 : Hid (Txs w.heap.size x1 u6 L) := Lib.hid (Txs.below (w := World.drewN _ _) HO.out hb)
        go_wp2_with (at_builtin; refine app_text rfl (.tmp 47) (.tmp 49) rfl w.heap.size _ L y rfl rfl HO1.out hle1 (by omega) ?_; intro v' w4 h8 h9 h10)
        go_roundw
        case rel => exact ⟨k + 1, by omega, by go_num, by rw [HW.out, HT.out], by rw [HS.out]; exact h8, hb1.trans h9⟩
        case measure => simp [RowKit.intOf]; omega
      · obtain rfl : k = n := by omega
        rw [← HM.out] at ho ⊢
        have hkI := hnd.out
        rcases hkI with hkI | hkI
        · have q1 : (l.length : Int) ≤ (k : Int) := by omega
          go_wp2_with fail
          go_meet
          exact ⟨rfl, ho, hbel⟩
        · by_cases hkl : k < l.length
          · have q1 : (k : Int) < (l.length : Int) := by omega
            have q2 : (12 : Int) ≤ (k : Int) := by omega
            have q3 : decide ((k : Int) < 12) = false := decide_eq_false (by omega)
            have q4 : decide (k < 12) = false := decide_eq_false (by omega)
            go_wp2_with fail
            go_meet
            exact ⟨rfl, ho, hbel⟩
          · have q1 : (l.length : Int) ≤ (k : Int) := by omega
            go_wp2_with fail
            go_meet
            exact ⟨rfl, ho, hbel⟩
  case rest =>
    obtain ⟨rfl, ho, hbel⟩ := hcut
    clear hmade
    obtain ⟨w2, hw2⟩ : ∃ w2, w2 = wc := ⟨_, rfl⟩
    subst hw2
    have hrow := ho.row
    obtain ⟨A2, cap2, rfl, m1, m2, m3⟩ := hrow.shape
    have HR := Lib.hid hrow
    have HC2 := Lib.hid m3
    have HB := Lib.hid hbel
    replace HG := Lib.hid (HG.out.below hbel)
    have HGET := Lib.hid (fun i hi => back_get ah M i hi HM60.out)
    have HALL : Hid (allL (Wr.puts M) = M ∧ allE (Wr.puts M) = 0) := Lib.hid (by
      have h := Wr.all_puts M (fun x hx => by have := HM60.out x hx; omega)
      unfold allL allE
      rw [h]
      exact ⟨rfl, rfl⟩)
    have hpm : (Wr.puts M).length ≤ 1000 := by have := HPS.out; omega
    have HTK : Hid (∀ k, (Wr.puts (M.take k)).length ≤ 1000) := Lib.hid (fun k => by
      have := puts_small (M.take k) (fun x hx => HM60.out x (List.mem_of_mem_take hx))
      have h2 : (M.take k).length ≤ 12 := by simp; omega
      omega)
    have HTS : Hid (∀ k, ∀ h : k < M.length, (ah ++ Wr.puts (M.take (k + 1))).length = (ah ++ Wr.puts (M.take k)).length + (Wr.put M[k]).length) := Lib.hid (fun k h => by
      rw [List.take_succ_eq_append_getElem h, puts_append]
      simp [Wr.puts]
      omega)
    have HEND : Hid ((ah ++ Wr.puts (M.take M.length)).length = ah.length + (Wr.puts M).length) := Lib.hid (by rw [List.take_length]; simp)
    have HZ : Hid ((ah ++ Wr.puts (M.take 0)).length = ah.length) := Lib.hid (by simp [Wr.puts])
    obtain ⟨PM, hPM⟩ : ∃ PM, PM = Wr.puts M := ⟨_, rfl⟩
    rw [← hPM] at HGET HALL HEND hpm ⊢
    obtain ⟨S, hS⟩ : ∃ S, S = ah ++ PM := ⟨_, rfl⟩
    rw [← hS] at HGET
    have hSl : S.length ≤ 2000 := by rw [hS]; simp; omega
    have o1 : bs ah ++ bs PM = bs S := by rw [hS, bs_append]
    have p1 : (bs ah).size + (bs PM).size ≤ 9223372036854775807 := by rw [bs_size, bs_size]; omega
    have p2 : ¬ (9223372036854775807 < (bs ah).size + (bs PM).size) := by rw [bs_size, bs_size]; omega
    have HPM := Lib.hid hPM
    have HSS := Lib.hid hS
    have hML : Hid (M.length = n) := Lib.hid hMl
    clear hPM hS hrow m3 ho hbel hMl hpm
    have zah := bs_size ah
    have zpm := bs_size PM
    have hpm : (bs PM).size ≤ 1000 := by have := HPS.out; rw [bs_size, HPM.out]; have := hML.out; omega
    go_wp2_with fail
    go_loopw [9, 10] (fun t i wr => ∃ k : Nat, k ≤ M.length ∧ i = .int .i64 k ∧ t = .int .i64 ((ah ++ Wr.puts (M.take k)).length : Nat) ∧ Below w2.heap.size w2 wr) (fun _ i _ => M.length - (RowKit.intOf i).toNat)
    case atStart => exact ⟨0, Nat.zero_le _, rfl, by rw [HZ.out], Below.refl _ _⟩
    case round =>
      obtain ⟨k, hk, rfl, rfl, hbel⟩ := hrel
      have hle := hbel.size
      have HGr := Lib.hid (HG.out.below hbel)
      have htk := HTK.out k
      have hak : (ah ++ Wr.puts (M.take k)).length ≤ 2000 := by simp; omega
      by_cases hlt : k < M.length
      · obtain ⟨b, off, rfl, hbl, hc⟩ := HC2.out (by rintro rfl; simp at hlt)
        have d0 := (hbel.cell (p := ⟨b, off + k, none⟩) hbl).trans (hc k hlt)
        have hgk := HGET.out k hlt
        have hts := HTS.out k hlt
        have h60 := HM60.out _ (List.getElem_mem hlt)
        have hkI : (k : Int) < (M.length : Int) := by omega
        have hk0 : (0 : Int) ≤ (k : Int) := by omega
        generalize M[k] = x at *
        have HP := Lib.hid (fun w hg => wPut_any x w (by omega) hg)
        have hpl : (Wr.put x).length ≤ 72 := by
          have := dig_len x.length (by omega)
          simp [Wr.put]
          omega
        generalize Wr.put x = px at *
        have HTS2 := Lib.hid hts
        obtain ⟨a, ha⟩ : ∃ a, a = (ah ++ Wr.puts (M.take k)).length := ⟨_, rfl⟩
        rw [← ha] at hgk hts hak ⊢
        have HGC := Lib.hid (fun w hg => wGet_any S (a : Nat) 60 w (by omega) ⟨by omega, by omega⟩ (by decide) hg)
        rw [hgk] at HGC
        obtain ⟨q, hq⟩ : ∃ q, q = a + px.length := ⟨_, rfl⟩
        rw [← hq] at HGC hts
        have zpx := bs_size px
        have hne : ((q : Int) != (a : Int) + (px.length : Int)) = false := by rw [hq]; simp
        have hsum : (a : Int) + (px.length : Int) ≤ 9223372036854775807 := by omega
        have hsum0 : (0 : Int) ≤ (a : Int) + (px.length : Int) := by omega
        have hq2 : q ≤ 5000 := by omega
        have HTS3 := Lib.hid hts
        have hxx : ((bs x).toList != (bs x).toList) = false := by simp
        clear hc hgk hts ha hq htk
        go_wp2_with fail
        refine (HGC.out _ HGr.out.et).mono ?_
        rintro e x1 ⟨rfl, hb⟩
        unfold gX gQ gE
        have hb1 := below_via hbel hb
        have d1 := (hb.cell (p := ⟨b, off + k, none⟩) (Nat.lt_of_lt_of_le hbl hle)).trans d0
        have HGr1 := Lib.hid (HGr.out.below hb)
        clear d0 hb HGC
        go_wp2_with fail
        refine (HP.out _ HGr1.out).mono ?_
        rintro e x2 ⟨rfl, hb⟩
        go_wp2_with fail
        go_roundw
        case rel => exact ⟨k + 1, by omega, by go_num, by rw [HTS3.out], below_via hb1 hb⟩
        case measure => simp [RowKit.intOf]; omega
      · obtain rfl : k = M.length := by omega
        rw [HEND.out]
        clear hak htk
        have HA := Lib.hid (fun w hg => all_any PM w (by have := bs_size PM; omega) hg)
        have heq : (((ah.length + PM.length : Nat) : Int) == (ah.length : Int) + (PM.length : Int)) = true := by simp
        obtain ⟨q, hq⟩ : ∃ q, q = ah.length + PM.length := ⟨_, rfl⟩
        rw [← hq] at heq ⊢
        have s1 : (ah.length : Int) + (PM.length : Int) ≤ 9223372036854775807 := by omega
        have s2 : (0 : Int) ≤ (ah.length : Int) + (PM.length : Int) := by omega
        clear hq
        go_wp2_with fail
        refine (HA.out _ HGr.out.et).mono ?_
        rintro e x1 ⟨hb, v1, rfl, r1⟩
        rw [HALL.out.2]
        rw [HALL.out.1] at r1
        obtain ⟨A3, cap3, rfl, _⟩ := r1.shape
        have R1 := Lib.hid r1
        have HB1 := Lib.hid (below_via (below_via HB.out hbel) hb)
        have HG1 := Lib.hid (HGr.out.below hb)
        have HR1 := Lib.hid ((HR.out.step hbel).step hb)
        clear r1 hb hbel
        have hM12 : M.length < 1000000 := by have := hML.out; omega
        go_wp2_with fail
        refine (words2_any _ _ M M _ R1.out HR1.out hM12 hM12).mono ?_
        rintro e x2 ⟨he, m, rfl⟩
        rw [decide_eq_true rfl] at he
        subst he
        have hd := below_of_drewN (B := x1.heap.size) (a := x1) m
        replace HB1 := Lib.hid (below_via HB1.out hd)
        replace HG1 := Lib.hid (HG1.out.below hd)
        clear hd R1 HR1
        generalize x1.drewN m = x2 at *
        go_wp2_with fail
        refine (fixed_any _ HG1.out).mono ?_
        rintro e x3 ⟨rfl, hb⟩
        go_wp2_with fail
        go_ret
        exact ⟨rfl, below_via HB1.out hb⟩
end Go.Proofs.YtmgfbmkfgbildaaDoor
