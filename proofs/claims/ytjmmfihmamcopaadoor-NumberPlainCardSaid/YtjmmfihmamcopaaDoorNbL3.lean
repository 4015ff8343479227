/- stetlaw11.NumberPlain. -/
import Derived.Test.YtjmmfihmamcopaaDoorNbL0
namespace Go.Proofs.YtjmmfihmamcopaaDoor
open Go.RowKit Tx Nb

/-- The words of the first blocks. -/
def flatK (s : St) (j : Nat) : List Bs := (s.blocks.take j).flatMap (·.2)
theorem flatK_all (s : St) : flatK s s.blocks.length = flat s := by unfold flatK flat; rw [List.take_length]
theorem flat_take_len (s : St) (j : Nat) : (flatK s j).length ≤ (flat s).length := by
  have h := congrArg (fun l : List (Int × List Bs) => (l.flatMap (·.2)).length) (List.take_append_drop j s.blocks)
  simp only [List.flatMap_append, List.length_append] at h
  unfold flat flatK
  omega
theorem flat_take (s : St) (j : Nat) (h : j < s.blocks.length) : flatK s (j + 1) = flatK s j ++ s.blocks[j].2 := by
  unfold flatK
  rw [List.take_succ_eq_append_getElem h, List.flatMap_append, List.flatMap_cons, List.flatMap_nil, List.append_nil]
def kd (x : Int) : Int := 1 + (((BitVec.ofInt 64 x &&& BitVec.ofInt 64 3).toNat % 3 : Nat) : Int)
theorem kd_and (x : Int) : ∃ k : Nat, k ≤ 3 ∧ bits .and .i64 x 3 = (k : Int) ∧ kd x = 1 + ((k % 3 : Nat) : Int) := by
  refine ⟨(BitVec.ofInt 64 x &&& BitVec.ofInt 64 3).toNat, ?_, ?_, rfl⟩
  · rw [BitVec.toNat_and, show (BitVec.ofInt 64 3).toNat = 3 by decide]
    exact Nat.and_le_right
  · show IntKind.i64.wrap ((BitVec.ofInt 64 x &&& BitVec.ofInt 64 3).toNat : Int) = _
    refine IntWalk.i64_in _ ?_
    have : (BitVec.ofInt 64 x &&& BitVec.ofInt 64 3).toNat ≤ 3 := by
      rw [BitVec.toNat_and, show (BitVec.ofInt 64 3).toNat = 3 by decide]
      exact Nat.and_le_right
    omega
theorem kd_in (x : Int) : kd x = 1 ∨ kd x = 2 ∨ kd x = 3 := by
  have : (BitVec.ofInt 64 x &&& BitVec.ofInt 64 3).toNat % 3 < 3 := Nat.mod_lt _ (by decide)
  unfold kd
  omega
def plIt (x : It) : It := ⟨kd x.kind, x.s.take 80⟩
theorem plS_len {p : List Bs × Bool} {x : It} {n T : Nat} (h : p.1.length ≤ n ∧ ∀ w ∈ p.1, w.length ≤ T) (hx : x.s.length ≤ 80) : (plS p x).1.length ≤ n + 1 ∧ ∀ w ∈ (plS p x).1, w.length ≤ T + 80 := by
  obtain ⟨h1, h2⟩ := h
  unfold plS
  split
  · split
    · exact ⟨by omega, fun w hw => by have := h2 w hw; omega⟩
    · split
      · by_cases hn : p.1 = []
        · rw [hn]; simp [onLast]
        · obtain ⟨a, b, e⟩ : ∃ a b, p.1 = a ++ [b] := ⟨p.1.dropLast, p.1.getLast hn, (List.dropLast_concat_getLast _).symm⟩
          rw [e] at h1 h2
          simp only [e, onLast_snoc]
          refine ⟨by simp at h1 ⊢; omega, fun w hw => ?_⟩
          rcases List.mem_append.1 hw with hw | hw
          · have := h2 w (List.mem_append_left _ hw); omega
          · simp only [List.mem_singleton] at hw
            subst hw
            have := h2 b (by simp)
            simp only [List.length_append]; omega
      · refine ⟨by simp only [List.length_append, List.length_singleton]; omega, fun w hw => ?_⟩
        rcases List.mem_append.1 hw with hw | hw
        · have := h2 w hw; omega
        · simp only [List.mem_singleton] at hw
          subst hw
          omega
  · exact ⟨by simp only; omega, fun w hw => by have := h2 w hw; omega⟩
def plR (l : List It) : List Bs × Bool := l.foldl plS ([], false)
theorem plR_snoc (l : List It) (x : It) : plR (l ++ [x]) = plS (plR l) x := by unfold plR; rw [List.foldl_append]; rfl
theorem plR_len (l : List It) (h : ∀ x ∈ l, x.s.length ≤ 80) : (plR l).1.length ≤ l.length ∧ (∀ w ∈ (plR l).1, w.length ≤ 80 * l.length) ∧ ((plR l).2 = true → (plR l).1 ≠ []) := by
  have key : ∀ (l : List It) (p : List Bs × Bool) (n T : Nat), (p.1.length ≤ n ∧ ∀ w ∈ p.1, w.length ≤ T) → (p.2 = true → p.1 ≠ []) → (∀ x ∈ l, x.s.length ≤ 80) → ((l.foldl plS p).1.length ≤ n + l.length ∧ ∀ w ∈ (l.foldl plS p).1, w.length ≤ T + 80 * l.length) ∧ ((l.foldl plS p).2 = true → (l.foldl plS p).1 ≠ []) := by
    intro l
    induction l with
    | nil => intro p n T h h2 _; exact ⟨⟨by simpa using h.1, fun w hw => by have := h.2 w hw; simp; omega⟩, h2⟩
    | cons x l ih =>
      intro p n T h h2 hl
      obtain ⟨⟨a, b⟩, c⟩ := ih (plS p x) (n + 1) (T + 80) (plS_len h (hl x (by simp))) (plS_ne p x h2) (fun y hy => hl y (by simp [hy]))
      simp only [List.foldl_cons, List.length_cons]
      exact ⟨⟨by omega, fun w hw => by have := b w hw; omega⟩, c⟩
  obtain ⟨⟨a, b⟩, c⟩ := key l ([], false) 0 0 (by simp) (by simp) h
  exact ⟨by unfold plR; omega, fun w hw => by have := b w hw; omega, c⟩
theorem ownC_set {w : World} {B : Nat} {ws : List Bs} {x : Bs} {g c : Nat} (h : OwnC 9 1 txF B w (.slice (some ⟨g, 0, none⟩) (ws.length + 1) c) (ws ++ [x])) (y : Bs) : OwnC 9 1 txF B (w.setCell ⟨g, ws.length, none⟩ (vs y)) (.slice (some ⟨g, 0, none⟩) (ws.length + 1) c) (ws ++ [y]) := by
  have h0 : w.ownsRow B 9 1 (.slice (some ⟨g, 0, none⟩) (ws.length + 1) c) (ws.length + 1) ((ws ++ [x]).flatMap txF) := by
    have := h
    unfold OwnC at this
    rw [List.length_append] at this
    exact this
  obtain ⟨ho1, hg1⟩ := h0.stored ws.length (vs y)
  have e1 : ((ws ++ [x]).flatMap txF).set ws.length (vs y) = (ws ++ [y]).flatMap txF := by
    have hl : (ws.flatMap txF).length = ws.length := by have := flat_length (f := txF) (n := 1) (fun _ => rfl) ws; omega
    rw [List.flatMap_append, List.flatMap_append, List.set_append_right _ _ (by omega), hl, Nat.sub_self]
    rfl
  rw [e1] at ho1
  unfold OwnC
  simpa using ho1
set_option maxRecDepth 100000 in
set_option maxHeartbeats 16000000 in
theorem plain_any {w : World} (vl : Value) (l : List It) (hr : RowC 2 itF w w.heap.size vl l) (ok : ∀ x ∈ l, x.s.length ≤ maxLen) (hg : Gl w) :
    Calls Tryd.prog 5 #[vl] w fun e w' => e = .returned (.bool true) ∧ Below w.heap.size w w' := by
  obtain ⟨A, c, rfl, _, hmx, z1⟩ := hr.shape
  have HC := Lib.hid z1
  have OK := Lib.hid ok
  have HG := Lib.hid hg
  clear z1 hr ok hg
  go_enter Tryd.func5, Tryd.ntmps5
  go_upto_block 0 with fail
  go_cut [3, 4] (fun kk ws wr => ∃ LL : List It, LL.length ≤ 40 ∧ (∀ z ∈ LL, (z.kind = 1 ∨ z.kind = 2 ∨ z.kind = 3) ∧ z.s.length ≤ 80) ∧ OwnC 58 2 itF w.heap.size wr kk LL ∧ OwnC 9 1 txF w.heap.size wr ws (plR LL).1 ∧ Below w.heap.size w wr)
  case first =>
    go_wp2_with fail
    go_loopw [3, 4, 5, 6] (fun kk ws o i wr => ∃ j : Nat, j ≤ l.length ∧ j ≤ 40 ∧ i = .int .i64 j ∧ o = .bool (plR ((l.take j).map plIt)).2 ∧ OwnC 58 2 itF w.heap.size wr kk ((l.take j).map plIt) ∧ OwnC 9 1 txF w.heap.size wr ws (plR ((l.take j).map plIt)).1 ∧ (∀ b, kk.ownBlock = some b → ws.ownBlock ≠ some b) ∧ Below w.heap.size w wr) (fun _ _ _ i _ => l.length - (RowKit.intOf i).toNat)
    case atStart =>
      refine ⟨0, Nat.zero_le _, Nat.zero_le _, rfl, rfl, (made_empty w w.heap.size (Nat.le_refl _)).below ((Below.refl _ _).alloc (Nat.le_refl _) _), (by have h := made_empty (e := 9) (n := 1) (f := txF) (w.alloc (.cells #[] 58)) w.heap.size (by simp); rw [World.size_alloc] at h; exact h), fun b h1 h2 => ?_, ((Below.refl _ _).alloc (Nat.le_refl _) _).alloc (by simp) _⟩
      have h3 : some w.heap.size = some b := h1
      have h4 : some (w.heap.size + 1) = some b := h2
      injection h3 with h3
      injection h4 with h4
      omega
    case round =>
      obtain ⟨j, hj, hjk, rfl, rfl, hok, how, hdis, hbel⟩ := hrel
      by_cases hjt : j < l.length ∧ j < 40
      · obtain ⟨hjt, hj40⟩ := hjt
        have hi : (j : Int) < (l.length : Int) := by omega
        have hi0 : (0 : Int) ≤ (j : Int) := by omega
        have hi2 : (j : Int) < 40 := by omega
        obtain ⟨b, off, rfl, hbl, hc⟩ := HC.out (by intro e; rw [e] at hjt; simp at hjt)
        have x0 : wr.cell? ⟨b, off + j * 2, none⟩ = some (.int .i64 l[j].kind) := (hbel.cell (p := ⟨b, off + j * 2, none⟩) hbl).trans (hc j hjt 0 _ rfl)
        have x1 : wr.cell? ⟨b, off + j * 2 + 1, none⟩ = some (.string (bs l[j].s)) := (hbel.cell (p := ⟨b, off + j * 2 + 1, none⟩) hbl).trans (hc j hjt 1 _ rfl)
        have hsl := OK.out l[j] (List.getElem_mem hjt)
        have HT : Hid ((l.take (j + 1)).map plIt = (l.take j).map plIt ++ [plIt l[j]]) := Lib.hid (by rw [List.take_succ_eq_append_getElem hjt, List.map_append]; rfl)
        have hpl := plR_len ((l.take j).map plIt) (fun y hy => by obtain ⟨u, _, rfl⟩ := List.mem_map.1 hy; simp only [plIt, List.length_take]; omega)
        simp only [List.length_map, List.length_take] at hpl
        generalize l[j] = x at *
        obtain ⟨kk, hk3, ha, hkd⟩ := kd_and x.kind
        have hkin := kd_in x.kind
        have htm : (kk : Int).tmod 3 = ((kk % 3 : Nat) : Int) := by rw [Int.tmod_eq_emod_of_nonneg (by omega)]; omega
        have hw1 : IntKind.i64.wrap (1 + (kk : Int) % 3) = kd x.kind := by rw [IntWalk.i64_in _ (by omega), hkd]; omega
        have e0 := ext_take x.s 80
        simp only [show ((80 : Nat) : Int) = 80 from rfl] at e0
        have z0 := bs_size x.s
        have f0 : (0 : Int) ≤ min ((bs x.s).size : Int) 80 := by omega
        have g0 : min ((bs x.s).size : Int) 80 ≤ ((bs x.s).size : Int) := by omega
        rw [z0] at e0 f0 g0
        have e9 : (bs x.s).extract 0 (min ((x.s.length : Nat) : Int) 80).toNat = bs (x.s.take 80) := by rw [← z0]; exact ext_take x.s 80
        have hok0 := Lib.hid hok
        have how0 := Lib.hid how
        have HDIS := Lib.hid hdis
        have HBEL := Lib.hid hbel
        clear hc hok how hdis hbel
        generalize hrp : plR ((l.take j).map plIt) = p at *
        obtain ⟨ws0, op⟩ := p
        simp only at *
        go_upto_region 5 with fail
        go_cut [7] (fun x7 wq => x7 = .pointer (some ⟨wr.heap.size, 0, none⟩) ∧ wq = (wr.alloc (.cells #[.int .i64 (1 + (kk : Int) % 3), .string (bs (x.s.take 80))] 58)).drew)
        case first =>
          go_region_held3 (fun wx => wx.cell? ⟨b, off + j * 2, none⟩ = some (.int .i64 x.kind) ∧ wx.cell? ⟨b, off + j * 2 + 1, none⟩ = some (.string (bs x.s))) (go_keep) (fail)
          all_goals go_wp2_with fail
          all_goals go_meet
          all_goals exact ⟨rfl, rfl⟩
        obtain ⟨rfl, rfl⟩ := hcut
        obtain ⟨V, hV⟩ : ∃ V, V = (wr.alloc (.cells #[.int .i64 (1 + (kk : Int) % 3), .string (bs (x.s.take 80))] 58)).drew := ⟨_, rfl⟩
        have hVX : V.heap[wr.heap.size]? = some (.cells #[.int .i64 (kd x.kind), .string (bs (x.s.take 80))] 58 (0, 0)) := by rw [hV, show kd x.kind = 1 + (kk : Int) % 3 by rw [hkd]; omega]; exact heap_alloc_new wr _
        have hVb : Below wr.heap.size wr V := by rw [hV]; exact ((Below.refl _ _).alloc (Nat.le_refl _) _).drew
        rw [← hV]
        have hOKV := hok0.out.below hVb
        have hOWV := how0.out.below hVb
        have hX1 : ∀ b, u3.ownBlock = some b → b < wr.heap.size := fun b h => (hok0.out.lt b h).2
        have hX2 : ∀ b, u4.ownBlock = some b → b < wr.heap.size := fun b h => (how0.out.lt b h).2
        have hXV := lt_of_block hVX
        have z0 : V.cell? ⟨wr.heap.size, 0, none⟩ = some (.int .i64 (kd x.kind)) := by rw [Lib.cell_of_heap hVX]; rfl
        have z1 : V.cell? ⟨wr.heap.size, 1, none⟩ = some (.string (bs (x.s.take 80))) := by rw [Lib.cell_of_heap hVX]; rfl
        have HBV := Lib.hid (HBEL.out.trans (hVb.mono HBEL.out.size))
        generalize wr.heap.size = X at *
        obtain ⟨i0, hi0', hz0, hz1', hz2⟩ := info_parts itInfo
        have HOKV := Lib.hid hOKV
        have HOWV := Lib.hid hOWV
        have HX1 := Lib.hid hX1
        have HX2 := Lib.hid hX2
        have HSZ := Lib.hid HBV.out.size
        obtain ⟨T, hT⟩ : ∃ T, T = x.s.take 80 := ⟨_, rfl⟩
        have hTl : T.length ≤ 80 := by rw [hT, List.length_take]; omega
        rw [← hT] at z1
        have HTT := Lib.hid hT
        obtain ⟨LK, hLK⟩ : ∃ LK, LK = (l.take j).map plIt := ⟨_, rfl⟩
        have hlk : LK.length ≤ 40 := by rw [hLK]; simp; omega
        rw [← hLK] at HOKV
        have HLK := Lib.hid hLK
        have hdk : ∀ d, kd x.kind = d → plIt x = ⟨d, T⟩ := fun d hd => by unfold plIt; rw [hd, hT]
        have HDK := Lib.hid hdk
        clear hV hVX hVb hOKV hOWV hX1 hX2 x0 x1 hT hLK hdk hok0 how0 HBEL e0 f0 g0 e9 hkd ha htm hw1
        go_upto_region 7 with (at_builtin; refine wpList_appN (by rfl) (.tmp 45) (.tmp 47) 22 (by rfl) w.heap.size 58 i0 _ 2 24 Tryd.underlying22 hi0' hz0 hz1' hz2 (by rfl) (by decide) u3 LK.length (LK.flatMap itF) [.int .i64 (kd x.kind), .string (bs T)] rfl (by simp [Value.oneCell']) (by rfl) V.heap.size rfl (by rfl) HOKV.out HSZ.out (by simp [maxLen]; omega) (by omega) ?_; intro v1 w1 q1 q2 q3; have HQ := Lib.hid (And.intro q1 (And.intro q2 q3)); clear q1 q2 q3)
        obtain ⟨q1, q2, q3⟩ := HQ.out
        have hk1 : OwnC 58 2 itF w.heap.size w1 v1 (LK ++ [⟨kd x.kind, T⟩]) := by simpa [OwnC, itF, vs] using q1
        have hb1 : Below w.heap.size w w1 := HBV.out.grown q2 HSZ.out (fun k hk => (HOKV.out.lt k hk).1)
        have hw1 : OwnC 9 1 txF w.heap.size w1 u4 ws0 := HOWV.out.heap (fun k hk => q2.block k (by have := HX2.out k hk; omega) (fun e => HDIS.out k e.symm hk))
        have hd1 : ∀ b, v1.ownBlock = some b → u4.ownBlock ≠ some b := fun b h1 h2 => by
          rcases q3 b h1 with h3 | h3
          · exact HDIS.out b h3 h2
          · have := HX2.out b h2
            omega
        have hXb := q2.block X hXV (fun e => by have := HX1.out X e.symm; omega)
        have z0' := (World.cell?_of_block (a := ⟨X, 0, none⟩) hXb).trans z0
        have z1' := (World.cell?_of_block (a := ⟨X, 1, none⟩) hXb).trans z1
        have HK1 := Lib.hid (show OwnC 58 2 itF w.heap.size w1 v1 ((l.take (j + 1)).map plIt) by rw [HT.out, ← HLK.out, HDK.out _ rfl]; exact hk1)
        have HEQ := Lib.hid (show plR ((l.take (j + 1)).map plIt) = plS (ws0, op) ⟨kd x.kind, T⟩ by rw [HT.out, plR_snoc, hrp, HDK.out _ rfl])
        have HW1 := Lib.hid hw1
        have HB1 := Lib.hid hb1
        have HD1 := Lib.hid hd1
        have HS1 := Lib.hid hb1.size
        clear q1 q2 q3 hk1 hb1 hw1 hd1 hXb z0 z1 hrp HQ HOKV HOWV HX1 HX2 HSZ HBV HDIS HT HLK HDK HTT hi0' hz0 hz1' hz2
        rcases hkin with hki | hki | hki
        · by_cases hT0 : T = []
          · have HE : Hid (plR ((l.take (j + 1)).map plIt) = (ws0, op)) := Lib.hid (by rw [HEQ.out, hki]; unfold plS; rw [if_pos rfl, if_pos hT0])
            rw [hT0] at z1'
            rw [hki] at z0'
            have hne : (bs ([] : Bs)).toList.isEmpty = true := by rw [toListB']; rfl
            clear hT0 hki
            cases op <;> (
              go_wp2_with fail
              go_roundw
              case rel => exact ⟨j + 1, by omega, by omega, by go_num, by rw [HE.out], HK1.out, by rw [HE.out]; exact HW1.out, HD1.out, HB1.out⟩
              case measure => simp [RowKit.intOf]; omega)
          · have hne : (bs T).toList.isEmpty = false := by rw [toListB']; simpa using hT0
            have hT1 : T.length ≠ 0 := by simpa using hT0
            rw [hki] at z0'
            cases op with
            | true =>
              have HE : Hid (plR ((l.take (j + 1)).map plIt) = (onLast (· ++ T) ws0, true)) := Lib.hid (by rw [HEQ.out, hki]; unfold plS; rw [if_pos rfl, if_neg hT0, if_pos rfl])
              have hws := hpl.2.2 rfl
              obtain ⟨ws, y, rfl⟩ : ∃ a b, ws0 = a ++ [b] := ⟨ws0.dropLast, ws0.getLast hws, (List.dropLast_concat_getLast _).symm⟩
              have hyl : y.length ≤ 80 * min j l.length := hpl.2.1 y (by simp)
              have how : w1.ownsRow w.heap.size 9 1 u4 (ws.length + 1) ((ws ++ [y]).flatMap txF) := by
                have := HW1.out
                unfold OwnC at this
                rw [List.length_append] at this
                exact this
              have hwl : ws.length ≤ 40 := by have := hpl.1; simp at this; omega
              obtain ⟨g, cc, hu4, hgb, hgl, hnc, hcm, hcell⟩ := own_some how (by omega)
              obtain ⟨yc, yf⟩ := hcell ws.length (by omega)
              have hfl : ((ws ++ [y]).flatMap txF)[ws.length]? = some (.string (bs y)) := by
                have hl : (ws.flatMap txF).length = ws.length := by have := flat_length (f := txF) (n := 1) (fun _ => rfl) ws; omega
                rw [List.flatMap_append, List.getElem?_append_right (by omega), hl, Nat.sub_self]
                rfl
              rw [hfl] at yc
              subst hu4
              have hx1 : IntKind.i64.wrap (((ws.length + 1 : Nat) : Int) - 1) = (ws.length : Int) := by rw [IntWalk.i64_in _ (by omega)]; omega
              have hx2 : IntKind.i64.wrap ((ws.length : Int) + 1 - 1) = (ws.length : Int) := by rw [IntWalk.i64_in _ (by omega)]; omega
              have hx6 : IntKind.i64.wrap (ws.length : Int) = (ws.length : Int) := IntWalk.i64_in _ (by omega)
              have hx3 : (0 : Int) ≤ (ws.length : Int) := by omega
              have hx4 : (ws.length : Int) < ((ws.length + 1 : Nat) : Int) := by omega
              have hx5 : (ws.length : Int) < (ws.length : Int) + 1 := by omega
              have o1 : bs y ++ bs T = bs (y ++ T) := bs_append _ _
              have o2 : ¬ 9223372036854775807 < (bs y).size + (bs T).size := by rw [bs_size, bs_size]; omega
              have HGB := Lib.hid hgb
              clear hT0 hki how hcell hfl hpl hws hgb
              go_upto_region 10 with fail
              have hS0 : (fun wx : World => wx.cell? ⟨g, ws.length, none⟩ = some (.string (bs y)) ∧ wx.cell? ⟨X, 1, none⟩ = some (.string (bs T))) w1.drew := ⟨yc, z1'⟩
              refine wp_region_headS 14 (fun wx : World => wx.cell? ⟨g, ws.length, none⟩ = some (.string (bs y)) ∧ wx.cell? ⟨X, 1, none⟩ = some (.string (bs T))) (by kernel_rfl) (by kernel_rfl) ?_
              refine WS_take (i := 0) (v := ?vb0) (by simp only [List.getElem?_toArray, List.getElem?_cons_zero]; rfl) (by decide) (by kernel_rfl) (by kernel_rfl) (by intro _ _ _ h; exact h) (Or.inl ⟨by rfl, ?hyb0⟩) hS0 ?restb0
              case hyb0 =>
                intro wx hx
                obtain ⟨s1, s2⟩ := hx
                go_simp
                try with_reducible rfl
              try simp only [Act.put, List.setIfInBounds_toArray, List.set_cons_zero, List.set_cons_succ]
              refine WS_take (i := 1) (v := ?vb1) (by simp only [List.getElem?_toArray, List.getElem?_cons_succ, List.getElem?_cons_zero]; rfl) (by decide) (by kernel_rfl) (by kernel_rfl) (by intro _ _ _ h; exact h) (Or.inl ⟨by rfl, ?hyb1⟩) hS0 ?restb1
              case hyb1 =>
                intro wx hx
                obtain ⟨s1, s2⟩ := hx
                go_simp
                try with_reducible rfl
              try simp only [Act.put, List.setIfInBounds_toArray, List.set_cons_zero, List.set_cons_succ]
              refine WS_take (i := 2) (v := ?vb2) (by simp only [List.getElem?_toArray, List.getElem?_cons_succ, List.getElem?_cons_zero]; rfl) (by decide) (by kernel_rfl) (by kernel_rfl) (by intro _ _ _ h; exact h) (Or.inl ⟨by rfl, ?hyb2⟩) hS0 ?restb2
              case hyb2 =>
                intro wx hx
                obtain ⟨s1, s2⟩ := hx
                go_simp
                try with_reducible rfl
              try simp only [Act.put, List.setIfInBounds_toArray, List.set_cons_zero, List.set_cons_succ]
              refine WS_take (i := 3) (v := ?vb3) (by simp only [List.getElem?_toArray, List.getElem?_cons_succ, List.getElem?_cons_zero]; rfl) (by decide) (by kernel_rfl) (by kernel_rfl) (by intro _ _ _ h; exact h) (Or.inl ⟨by rfl, ?hyb3⟩) hS0 ?restb3
              case hyb3 =>
                intro wx hx
                obtain ⟨s1, s2⟩ := hx
                go_simp
                try with_reducible rfl
              try simp only [Act.put, List.setIfInBounds_toArray, List.set_cons_zero, List.set_cons_succ]
              refine WS_take (i := 4) (v := ?vb4) (by simp only [List.getElem?_toArray, List.getElem?_cons_succ, List.getElem?_cons_zero]; rfl) (by decide) (by kernel_rfl) (by kernel_rfl) (by intro _ _ _ h; exact h) (Or.inl ⟨by rfl, ?hyb4⟩) hS0 ?restb4
              case hyb4 =>
                intro wx hx
                obtain ⟨s1, s2⟩ := hx
                go_simp
                try with_reducible rfl
              try simp only [Act.put, List.setIfInBounds_toArray, List.set_cons_zero, List.set_cons_succ]
              refine WS_take (i := 5) (v := ?vb5) (by simp only [List.getElem?_toArray, List.getElem?_cons_succ, List.getElem?_cons_zero]; rfl) (by decide) (by kernel_rfl) (by kernel_rfl) (by intro _ _ _ h; exact h) (Or.inl ⟨by rfl, ?hyb5⟩) hS0 ?restb5
              case hyb5 =>
                intro wx hx
                obtain ⟨s1, s2⟩ := hx
                go_simp
                try with_reducible rfl
              try simp only [Act.put, List.setIfInBounds_toArray, List.set_cons_zero, List.set_cons_succ]
              refine WS_take (i := 6) (v := ?vb6) (by simp only [List.getElem?_toArray, List.getElem?_cons_succ, List.getElem?_cons_zero]; rfl) (by decide) (by kernel_rfl) (by kernel_rfl) (by intro _ _ _ h; exact h) (Or.inl ⟨by rfl, ?hyb6⟩) hS0 ?restb6
              case hyb6 =>
                intro wx hx
                obtain ⟨s1, s2⟩ := hx
                go_simp
                try with_reducible rfl
              try simp only [Act.put, List.setIfInBounds_toArray, List.set_cons_zero, List.set_cons_succ]
              refine WS_take (i := 7) (v := ?vb7) (by simp only [List.getElem?_toArray, List.getElem?_cons_succ, List.getElem?_cons_zero]; rfl) (by decide) (by kernel_rfl) (by kernel_rfl) (by intro _ _ _ h; exact h) (Or.inl ⟨by rfl, ?hyb7⟩) hS0 ?restb7
              case hyb7 =>
                intro wx hx
                obtain ⟨s1, s2⟩ := hx
                go_simp
                try with_reducible rfl
              try simp only [Act.put, List.setIfInBounds_toArray, List.set_cons_zero, List.set_cons_succ]
              refine WS_take (i := 8) (v := ?vb8) (by simp only [List.getElem?_toArray, List.getElem?_cons_succ, List.getElem?_cons_zero]; rfl) (by decide) (by kernel_rfl) (by kernel_rfl) (by intro _ _ _ h; exact h) (Or.inl ⟨by rfl, ?hyb8⟩) hS0 ?restb8
              case hyb8 =>
                intro wx hx
                obtain ⟨s1, s2⟩ := hx
                go_simp
                try with_reducible rfl
              try simp only [Act.put, List.setIfInBounds_toArray, List.set_cons_zero, List.set_cons_succ]
              refine WS_take (i := 9) (v := ?vb9) (by simp only [List.getElem?_toArray, List.getElem?_cons_succ, List.getElem?_cons_zero]; rfl) (by decide) (by kernel_rfl) (by kernel_rfl) (by intro _ _ _ h; exact h) (Or.inl ⟨by rfl, ?hyb9⟩) hS0 ?restb9
              case hyb9 =>
                intro wx hx
                obtain ⟨s1, s2⟩ := hx
                go_simp
                try with_reducible rfl
              try simp only [Act.put, List.setIfInBounds_toArray, List.set_cons_zero, List.set_cons_succ]
              refine WS_take (i := 10) (v := ?vb10) (by simp only [List.getElem?_toArray, List.getElem?_cons_succ, List.getElem?_cons_zero]; rfl) (by decide) (by kernel_rfl) (by kernel_rfl) (by intro _ _ _ h; exact h) (Or.inl ⟨by rfl, ?hyb10⟩) hS0 ?restb10
              case hyb10 =>
                intro wx hx
                obtain ⟨s1, s2⟩ := hx
                go_simp
                try with_reducible rfl
              try simp only [Act.put, List.setIfInBounds_toArray, List.set_cons_zero, List.set_cons_succ]
              refine WS_take (i := 11) (v := ?vb11) (by simp only [List.getElem?_toArray, List.getElem?_cons_succ, List.getElem?_cons_zero]; rfl) (by decide) (by kernel_rfl) (by kernel_rfl) (by intro _ _ _ h; exact h) (Or.inl ⟨by rfl, ?hyb11⟩) hS0 ?restb11
              case hyb11 =>
                intro wx hx
                obtain ⟨s1, s2⟩ := hx
                go_simp
                try with_reducible rfl
              try simp only [Act.put, List.setIfInBounds_toArray, List.set_cons_zero, List.set_cons_succ]
              refine WS_take (i := 12) (v := ?vb12) (by simp only [List.getElem?_toArray, List.getElem?_cons_succ, List.getElem?_cons_zero]; rfl) (by decide) (by kernel_rfl) (by kernel_rfl) (by intro _ _ _ h; exact h) (Or.inl ⟨by rfl, ?hyb12⟩) hS0 ?restb12
              case hyb12 =>
                intro wx hx
                obtain ⟨s1, s2⟩ := hx
                go_simp
                try with_reducible rfl
              try simp only [Act.put, List.setIfInBounds_toArray, List.set_cons_zero, List.set_cons_succ]
              refine WS_take (i := 13) (v := ?vb13) (by simp only [List.getElem?_toArray, List.getElem?_cons_succ, List.getElem?_cons_zero]; rfl) (by decide) (by kernel_rfl) (by kernel_rfl) (by intro _ _ _ h; exact h) (Or.inl ⟨by rfl, ?hyb13⟩) hS0 ?restb13
              case hyb13 =>
                intro wx hx
                obtain ⟨s1, s2⟩ := hx
                go_simp
                try with_reducible rfl
              try simp only [Act.put, List.setIfInBounds_toArray, List.set_cons_zero, List.set_cons_succ]
              refine WS_done (by kernel_rfl) ?_
              simp only [List.drop_succ_cons, List.drop_zero]
              go_wp2_with fail
              go_roundw
              case rel =>
                refine ⟨j + 1, by omega, by omega, by go_num, by rw [HE.out], ?_, ?_, HD1.out, ?_⟩
                · refine (HK1.out.below (Below.refl _ _).drew).heap (fun k hk => Below.heap_setCell _ _ _ _ (fun e => ?_))
                  exact HD1.out k hk (by rw [e]; rfl)
                · rw [HE.out]
                  simp only [onLast_snoc]
                  exact ownC_set (HW1.out.below (Below.refl _ _).drew) (y ++ T)
                · exact (HB1.out.drew).setCell (p := ⟨g, ws.length, none⟩) HGB.out _
              case measure => simp [RowKit.intOf]; omega
            | false =>
              have HE : Hid (plR ((l.take (j + 1)).map plIt) = (ws0 ++ [T], true)) := Lib.hid (by rw [HEQ.out, hki]; unfold plS; rw [if_pos rfl, if_neg hT0, if_neg (by simp)])
              obtain ⟨i1, hj0, hj1, hj2, hj3⟩ := info_parts strInfo
              have hwl : ws0.length ≤ 40 := by have := hpl.1; omega
              clear hT0 hki hpl
              go_wp2_with (at_builtin; refine wpList_appN (by rfl) (.tmp 75) (.tmp 78) 25 (by rfl) w.heap.size 9 i1 _ 1 16 Tryd.underlying25 hj0 hj1 hj2 hj3 (by rfl) (by decide) u4 ws0.length (ws0.flatMap txF) [.string (bs T)] rfl (by simp [Value.oneCell']) (by rfl) w1.heap.size rfl (by rfl) HW1.out HS1.out (by simp [maxLen]; omega) (by omega) ?_; intro v2 w2 q1 q2 q3; have HQ := Lib.hid (And.intro q1 (And.intro q2 q3)); clear q1 q2 q3)
              go_roundw
              case rel =>
                obtain ⟨q1, q2, q3⟩ := HQ.out
                refine ⟨j + 1, by omega, by omega, by go_num, by rw [HE.out], ?_, ?_, ?_, ?_⟩
                · exact HK1.out.heap (fun k hk => q2.block k (HK1.out.lt k hk).2 (fun e => HD1.out k hk e.symm))
                · rw [HE.out]
                  simpa [OwnC, txF, vs] using q1
                · intro b h1 h2
                  rcases q3 b h2 with h3 | h3
                  · exact HD1.out b h1 h3
                  · have := (HK1.out.lt b h1).2
                    omega
                · exact HB1.out.grown q2 HS1.out (fun k hk => (HW1.out.lt k hk).1)
              case measure => simp [RowKit.intOf]; omega
        · have HE : Hid (plR ((l.take (j + 1)).map plIt) = (ws0, false)) := Lib.hid (by rw [HEQ.out, hki]; rfl)
          rw [hki] at z0'
          clear hki
          go_wp2_with fail
          go_roundw
          case rel => exact ⟨j + 1, by omega, by omega, by go_num, by rw [HE.out], HK1.out, by rw [HE.out]; exact HW1.out, HD1.out, HB1.out⟩
          case measure => simp [RowKit.intOf]; omega
        · have HE : Hid (plR ((l.take (j + 1)).map plIt) = (ws0, false)) := Lib.hid (by rw [HEQ.out, hki]; rfl)
          rw [hki] at z0'
          clear hki
          go_wp2_with fail
          go_roundw
          case rel => exact ⟨j + 1, by omega, by omega, by go_num, by rw [HE.out], HK1.out, by rw [HE.out]; exact HW1.out, HD1.out, HB1.out⟩
          case measure => simp [RowKit.intOf]; omega
      · have HK := Lib.hid hok
        have HW := Lib.hid how
        have HB := Lib.hid hbel
        have hlx : ∀ z ∈ (l.take j).map plIt, (z.kind = 1 ∨ z.kind = 2 ∨ z.kind = 3) ∧ z.s.length ≤ 80 := fun z hz => by
          obtain ⟨u, _, rfl⟩ := List.mem_map.1 hz
          exact ⟨kd_in u.kind, by simp only [plIt, List.length_take]; omega⟩
        have hll : ((l.take j).map plIt).length ≤ 40 := by simp; omega
        have HLX := Lib.hid (And.intro hll hlx)
        clear hok how hdis hbel hlx hll
        by_cases hj2 : j < l.length
        · have hi : (j : Int) < (l.length : Int) := by omega
          obtain rfl : j = 40 := by omega
          have hi2 : ¬ (((40 : Nat) : Int) < 40) := by omega
          go_wp2_with fail
          go_meet
          exact ⟨(l.take 40).map plIt, HLX.out.1, HLX.out.2, HK.out, HW.out, HB.out⟩
        · have hi : ¬ (j : Int) < (l.length : Int) := by omega
          go_wp2_with fail
          go_meet
          exact ⟨(l.take j).map plIt, HLX.out.1, HLX.out.2, HK.out, HW.out, HB.out⟩
  case rest =>
    obtain ⟨LL, hl1, hl2, hok, how, hbel⟩ := hcut
    have hLx : ∀ z ∈ LL, z.s.length ≤ 100 := fun z hz => by have := (hl2 z hz).2; omega
    have hN := num1_any u3 LL (hok.rowC itF_len) (by omega) hLx (HG.out.below hbel)
    have hp : Pln (run E1 LL) (plR LL) := run_pln E1 LL (fun z hz => (hl2 z hz).1)
    have hbd := (run_bd E1_ok LL hLx).1.mono (show 600 + 1000 * LL.length ≤ 40600 by omega)
    have hpl : (plR LL).1.length ≤ 40 := by have := (plR_len LL (fun z hz => (hl2 z hz).2)).1; omega
    generalize run E1 LL = s at *
    generalize plR LL = p at *
    have hwr := how.rowC txF_len
    obtain ⟨A', n', c', rfl⟩ : ∃ A n c, u3 = .slice A n c := by obtain ⟨A, c, e⟩ := own_slice hok; exact ⟨A, _, c, e⟩
    obtain ⟨Aw, cw, hu4, _, _, _⟩ := hwr.shape
    rw [hu4] at hwr
    subst hu4
    have hpf : flat s = p.1 := hp.fl
    have hwo : (flat s).length ≤ 40 := by rw [hpf]; omega
    have HWR := Lib.hid hwr
    have HP := Lib.hid hp
    have HPF := Lib.hid hpf
    have HN := Lib.hid hN
    have HB0 := Lib.hid hbel
    have HBD := Lib.hid hbd
    have HPL := Lib.hid hpl
    clear hLx hN hp hbd hwr hpf hok how hbel hl1 hl2 hpl
    go_wp2_with fail
    refine HN.out.mono ?_
    rintro e w2 ⟨v, rfl, ho, hb2⟩
    have hov : OutV w2 v s := ⟨ow_out ho, ow_bl ho⟩
    obtain ⟨⟨A0, c0, e0⟩, ⟨A1, c1, e1⟩, ⟨A2, c2, e2⟩, ⟨A3, c3, e3⟩, ⟨A4, c4, e4⟩, ⟨A5, c5, e5⟩, ⟨A6, c6, e6⟩, ⟨A7, c7, e7⟩, ⟨A8, c8, e8⟩, ⟨A9, c9, e9⟩⟩ := hov.is.shapes
    replace e1 : v 1 = .slice A1 0 c1 := by rw [e1, HP.out.lb]; rfl
    replace e2 : v 2 = .slice A2 0 c2 := by rw [e2, HP.out.hd]; rfl
    replace e3 : v 3 = .slice A3 0 c3 := by rw [e3, HP.out.ci]; rfl
    replace e4 : v 4 = .slice A4 0 c4 := by rw [e4, HP.out.bb]; rfl
    replace e8 : v 8 = .slice A8 0 c8 := by rw [e8, HP.out.ix]; rfl
    replace e9 : v 9 = .slice A9 0 c9 := by rw [e9, HP.out.nt]; rfl
    rw [e0, e1, e2, e3, e4, e5, e6, e7, e8, e9]
    obtain ⟨W, hW⟩ : ∃ W, W = w2.alloc (.cells #[.slice A0 s.blocks.length c0, .slice A1 0 c1, .slice A2 0 c2, .slice A3 0 c3, .slice A4 0 c4, .slice A5 s.la.length c5, .slice A6 s.ha.length c6, .slice A7 s.ia.length c7, .slice A8 0 c8, .slice A9 0 c9] 36) := ⟨_, rfl⟩
    have hO : W.heap[w2.heap.size]? = some (.cells #[.slice A0 s.blocks.length c0, .slice A1 0 c1, .slice A2 0 c2, .slice A3 0 c3, .slice A4 0 c4, .slice A5 s.la.length c5, .slice A6 s.ha.length c6, .slice A7 s.ia.length c7, .slice A8 0 c8, .slice A9 0 c9] 36 (0, 0)) := by rw [hW]; exact heap_alloc_new w2 _
    have hWb : Below w2.heap.size w2 W := by rw [hW]; exact (Below.refl _ _).alloc (Nat.le_refl _) _
    have hWs : W.heap.size = w2.heap.size + 1 := by rw [hW]; simp
    have hblo := hov.bo.step hWb
    rw [e0] at hblo
    have hlb := hov.is.lb.step hWb
    rw [e1, HP.out.lb] at hlb
    have hhd := hov.is.hd.step hWb
    rw [e2, HP.out.hd] at hhd
    have hci := hov.is.ci.step hWb
    rw [e3, HP.out.ci] at hci
    have hbb := hov.is.bb.step hWb
    rw [e4, HP.out.bb] at hbb
    have HBLO := Lib.hid hblo
    have HROW := Lib.hid (And.intro hlb (And.intro hhd (And.intro hci hbb)))
    have HO := Lib.hid hO
    have HCW := Lib.hid (below_via hb2 hWb)
    have HW := Lib.hid hW
    have HW2 := Lib.hid (show w2.heap.size < W.heap.size by omega)
    clear HN hov e0 e1 e2 e3 e4 e5 e6 e7 e8 e9 hblo hlb hhd hci hbb hO hWb hW hWs ho hb2
    go_upto_region 15 with fail
    rw [← HW.out]
    go_wp2_with fail
    go_loopw [9, 10] (fun o i wr => ∃ j : Nat, j ≤ s.blocks.length ∧ i = .int .i64 j ∧ OwnC 9 1 txF W.heap.size wr o (flatK s j) ∧ Below W.heap.size W wr) (fun _ i _ => s.blocks.length - (RowKit.intOf i).toNat)
    case atStart => exact ⟨0, Nat.zero_le _, rfl, made_empty _ _, (Below.refl _ _).alloc (Nat.le_refl _) _⟩
    case round =>
      obtain ⟨j, hj, rfl, hown, hbel⟩ := hrel
      have HBEL := Lib.hid hbel
      have hO := (hbel.block _ HW2.out).trans HO.out
      have y0 : wr.cell? ⟨w2.heap.size, 0, none⟩ = some (.slice A0 s.blocks.length c0) := by rw [Lib.cell_of_heap hO]; rfl
      by_cases hjt : j < s.blocks.length
      · have hi : (j : Int) < (s.blocks.length : Int) := by omega
        have hi0 : (0 : Int) ≤ (j : Int) := by omega
        obtain ⟨u, hu1, hu2, hu3⟩ := HBLO.out
        obtain ⟨Au, cu, eu, _, _, hcu⟩ := hu1.shape
        have hju : j < u.length := by omega
        obtain ⟨b, off, hA, hbl, hc⟩ := hcu (by intro e; rw [e] at hju; simp at hju)
        injection eu with i1 i2 i3
        rw [hA] at i1
        subst i1
        have x1 : wr.cell? ⟨b, off + j * 2 + 1, none⟩ = some u[j].2 := (hbel.cell (p := ⟨b, off + j * 2 + 1, none⟩) hbl).trans (hc j hju 1 _ rfl)
        have x0 : wr.cell? ⟨b, off + j * 2, none⟩ = some (.int .i64 u[j].1) := (hbel.cell (p := ⟨b, off + j * 2, none⟩) hbl).trans (hc j hju 0 _ rfl)
        obtain ⟨hk0, Bw, hw⟩ := hu3 j hju hjt
        obtain ⟨hz, hne0⟩ := HP.out.bl s.blocks[j] (List.getElem_mem hjt)
        rw [hk0, hz] at x0
        obtain ⟨Av, cv, ev⟩ := own_slice hw
        rw [ev] at x1 hw
        have HWJ := Lib.hid (hw.below hbel)
        have HT := Lib.hid (flat_take s j hjt)
        have hl1 := flat_take_len s (j + 1)
        rw [HT.out, List.length_append] at hl1
        have hw0 : s.blocks[j].2.length ≠ 0 := by simpa using hne0
        generalize s.blocks[j].2 = ws at *
        have hw1 : ¬ ((ws.length : Int) = 0) := by omega
        have hw2 : ((ws.length : Int) == 0) = false := by simpa using hw1
        obtain ⟨i0, hi0', hz0, hz1, hz2⟩ := info_parts strInfo
        have HOWN := Lib.hid hown
        have HSZ := Lib.hid hbel.size
        clear hc hown hbel hO hw hA hcu hu1 hu3 i2 i3 hz hk0 ev hne0
        go_wp2_with (at_builtin; refine wpList_appRow (by rfl) (.tmp 108) (.tmp 114) 25 (by rfl) W.heap.size 9 i0 _ 1 16 Tryd.underlying25 hi0' hz0 hz1 hz2 (by rfl) (by decide) u9 (flatK s j).length ((flatK s j).flatMap txF) rfl HOWN.out HSZ.out (.slice Av ws.length cv) (by rfl) ws.length (ws.flatMap txF) (src_own HWJ.out) (fun y hy => by obtain ⟨x, _, hx⟩ := List.mem_flatMap.1 hy; simp only [txF, List.mem_singleton] at hx; subst hx; rfl) (by simp only [maxLen]; omega) (by omega) ?_; intro v' w' q1 q2 q3; have HQ := Lib.hid (And.intro q1 (And.intro q2 q3)); clear q1 q2 q3)
        go_roundw
        case rel =>
          obtain ⟨q1, q2, q3⟩ := HQ.out
          refine ⟨j + 1, by omega, by go_num, ?_, ?_⟩
          · rw [HT.out]
            simpa [OwnC] using q1
          · exact HBEL.out.grown q2 HSZ.out (fun k hk => (World.ownsRow.lt HOWN.out k hk).1)
        case measure => simp [RowKit.intOf]; omega
      · obtain rfl : j = s.blocks.length := by omega
        have hi : ¬ ((s.blocks.length : Int) < (s.blocks.length : Int)) := by omega
        rw [flatK_all] at hown
        have hgr : RowC 1 txF wr wr.heap.size u9 (flat s) := hown.rowC txF_len
        obtain ⟨Ag, cg, hu9, _, _, _⟩ := hgr.shape
        rw [hu9] at hgr
        subst hu9
        have H2r := Nat.lt_of_lt_of_le HW2.out hbel.size
        have y1 : wr.cell? ⟨w2.heap.size, 1, none⟩ = some (.slice A1 0 c1) := by rw [Lib.cell_of_heap hO]; rfl
        have y2 : wr.cell? ⟨w2.heap.size, 2, none⟩ = some (.slice A2 0 c2) := by rw [Lib.cell_of_heap hO]; rfl
        have y3 : wr.cell? ⟨w2.heap.size, 3, none⟩ = some (.slice A3 0 c3) := by rw [Lib.cell_of_heap hO]; rfl
        have y4 : wr.cell? ⟨w2.heap.size, 4, none⟩ = some (.slice A4 0 c4) := by rw [Lib.cell_of_heap hO]; rfl
        have y8 : wr.cell? ⟨w2.heap.size, 8, none⟩ = some (.slice A8 0 c8) := by rw [Lib.cell_of_heap hO]; rfl
        have y9 : wr.cell? ⟨w2.heap.size, 9, none⟩ = some (.slice A9 0 c9) := by rw [Lib.cell_of_heap hO]; rfl
        have hcr := below_via HCW.out hbel
        rw [HPF.out] at hgr
        have HX := Lib.hid ((words2_any _ _ p.1 p.1 wr (rows_bs hgr) (rows_bs (HWR.out.step hcr)) (by have := HPL.out; omega) (by have := HPL.out; omega)).mono fun e w' ⟨he, n, hw⟩ => show e = Ending.returned (.bool true) ∧ Below wr.heap.size wr w' from ⟨by rw [he]; simp, by rw [hw]; exact below_of_drewN n⟩)
        have HWr := Lib.hid hbel
        have HCr := Lib.hid hcr
        have HLW := Lib.hid (show (flat s).length = p.1.length by rw [HPF.out])
        clear hgr hown hbel hO hcr
        rw [HLW.out]
        go_wp2_with fail
        refine HX.out.mono ?_
        rintro e w6 ⟨rfl, hb6⟩
        have z1 := below_cell hb6 H2r y1
        have z2 := below_cell hb6 H2r y2
        have z3 := below_cell hb6 H2r y3
        have z4 := below_cell hb6 H2r y4
        have z8 := below_cell hb6 H2r y8
        have z9 := below_cell hb6 H2r y9
        have H6r := Nat.lt_of_lt_of_le H2r hb6.size
        have h6 := below_via HWr.out hb6
        obtain ⟨k1, k2, k3, k4⟩ := HROW.out
        have HX1 := Lib.hid (ref_any (.slice A1 0 c1) (.slice A2 0 c2) (.slice A3 0 c3) (.slice A4 0 c4) [] [] (k1.step h6) (k2.step h6) (by simp) (by simp) ⟨_, _, _, rfl⟩ ⟨_, _, _, rfl⟩)
        have H6 := Lib.hid h6
        have HC6 := Lib.hid (below_via HCr.out hb6)
        clear y0 y1 y2 y3 y4 y8 y9 HX hb6 h6 k1 k2 k3 k4
        go_wp2_with fail
        refine HX1.out.mono ?_
        rintro e w7 ⟨r1, r2, rfl, o1, o2, hb7⟩
        have y8 := below_cell hb7 H6r z8
        have h7 := below_via H6.out hb7
        obtain ⟨k1, k2, k3, k4⟩ := HROW.out
        have HX2 := Lib.hid (same_any r1 r2 (.slice A3 0 c3) (.slice A4 0 c4) (.slice none 0 0) (.slice none 0 0) (.slice none 0 0) (.slice none 0 0) [] [] [] [] (o1.rowC labF_len) (o2.rowC hdF_len) (k3.step h7) (k4.step h7) (rowC_none _ _ _ _) (rowC_none _ _ _ _) (rowC_none _ _ _ _) (rowC_none _ _ _ _) (by simp) (by simp) (by simp) (by simp))
        have H7r := Nat.lt_of_lt_of_le H6r hb7.size
        have HC7 := Lib.hid (below_via HC6.out hb7)
        clear z1 z2 z3 z4 z8 z9 HX1 hb7 h7 k1 k2 k3 k4 o1 o2
        go_wp2_with fail
        refine HX2.out.mono ?_
        rintro e w8 ⟨rfl, hb8⟩
        have z8 := below_cell hb8 H7r y8
        have HC8 := Lib.hid (HB0.out.trans ((below_via HC7.out hb8).mono HB0.out.size))
        have HX3 := Lib.hid (fixed_any w8 (fun wx hb => HG.out.below (below_via HC8.out hb)))
        clear HX2 hb8 y8
        go_wp2_with fail
        refine HX3.out.mono ?_
        rintro e w9 ⟨rfl, hb9⟩
        go_wp2_with fail
        go_ret
        exact ⟨rfl, below_via HC8.out hb9⟩
end Go.Proofs.YtjmmfihmamcopaaDoor
