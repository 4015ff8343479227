/- number: head. -/
import Derived.Test.YtjmmfihmamcopaaGreatDoorNbM
namespace Go.Proofs.YtjmmfihmamcopaaGreatDoor
open Go.RowKit Tx Nb

theorem hdInfo : (Tryz.prog.info? 65).map (fun i => (i.zero, i.size, i.bytes)) = some (some (.agg #[.int .i64 0, .string ⟨#[]⟩, .string ⟨#[]⟩, .int .i64 0]), 4, 48) := by kernel_rfl
/-- 'append(l, m...)' at a step of a region that draws its order. -/
theorem step_appR {P : Program} {w : World} {ops : Array Oper} {o : Oper} {a : Act} {K : Act → World → Prop} {Q : Exit → Act → World → Prop} {E : Prop} (hgd : o.guard = none) (s x : Operand) (t : TypeId)
    (ho : o.op = .call { callee := .builtin .append, args := #[s, x], argTypes := #[t, t] })
    (base : Nat) (e : TypeId) (i : TypeInfo) (z : Value) (size bytes : Nat) (ht : P.underlying t = some (.slice e)) (hi : P.info? e = some i) (hz : i.zero = some z)
    (hsize : i.size = size) (hby : i.bytes = bytes) (hzs : z.cells.size = size) (hsz : 0 < size)
    (v : Value) (n : Nat) (xs : List Value) (hs : a.eval s = v) (ad : Addr) (m c : Nat) (news : List Value) (hx : a.eval x = .slice (some ad) m c) (hl : news.length = m * size) (hnews : ∀ j u, news[j]? = some u → w.cell? (ad.add j) = some u) (hone : ∀ y ∈ news, y.oneCell' = true)
    (hown : w.ownsRow base e size v n xs) (hb : base ≤ w.heap.size)
    (h63 : n + m ≤ maxLen) (hbytes : (n + m) * bytes ≤ 140737488355328)
    (h : ∀ v' w', w'.ownsRow base e size v' (n + m) (xs ++ news) → w.grownBy w' v.ownBlock → K (a.put o.dst v') w') :
    if Region.wanted o (yielded ops a.tmps) = true then Oper.wp P o a w K Q else E := by
  have hw : Region.wanted o (yielded ops a.tmps) = true := by simp [Region.wanted, hgd]
  rw [if_pos hw]
  obtain ⟨v', w', hr, h2, h3, _⟩ := run_append_own (P := P) w base t o.type e i z size bytes ht hi hz hsize hby hzs hsz v n xs hown ad m c news hl hnews hone h63 hbytes hb
  have key := h v' w' h2 h3
  unfold Oper.wp execOp
  simp only [ho, resolve, invoke, builtin, Sem.run_bind, Sem.run_pure, Result.andThen_ok, List.map_toArray, List.map_cons, List.map_nil, hs, hx, hr]
  exact key
theorem split_any (t : Bs) (w : World) (ht : t.length ≤ 1000) (hg : Gl w) : Calls Tryz.prog 54 #[vs t, .string ⟨#[32]⟩] w fun e w' => e = .returned (.slice (some ⟨w.heap.size, 0, none⟩) (spl t).length (spl t).length) ∧ w' = w.alloc (.cells ((spl t).map vs).toArray 9) := by
  obtain ⟨m, hm⟩ := hg.ml
  have hs : (⟨#[32]⟩ : ByteArray).size = 1 := rfl
  have h1 : (Lib.splitB ⟨#[32]⟩ 0 (Lib.countB (bs t) ⟨#[32]⟩) (bs t)).length = Lib.countB (bs t) ⟨#[32]⟩ + 1 := Lib.splitB_all ⟨#[32]⟩ (by rw [hs]; omega) 0 _ (bs t) rfl
  have h2 : (Lib.splitB ⟨#[32]⟩ 0 (Lib.countB (bs t) ⟨#[32]⟩) (bs t)).map (·.data.toList) = spl t := by
    rw [Lib.splitB_data]
    have e1 : Lib.countB (bs t) ⟨#[32]⟩ = Lib.count (bs t).data.toList [32] := rfl
    rw [e1, bs_list]
    rfl
  have h3 : (spl t).map vs = (Lib.splitB ⟨#[32]⟩ 0 (Lib.countB (bs t) ⟨#[32]⟩) (bs t)).map Value.string := by
    rw [← h2, List.map_map]
    refine List.map_congr_left fun b _ => ?_
    simp only [Function.comp, vs, bs_of]
  have h4 : (spl t).length = Lib.countB (bs t) ⟨#[32]⟩ + 1 := by rw [← h1, ← h2, List.length_map]
  have := Tryz.strings_Split (bs t) ⟨#[32]⟩ m w (by rw [bs_size]; omega) hm (by rw [hs]; omega)
  rw [← h4, ← h3] at this
  exact this
section
variable {B wb : Nat} {w0 w : World} {k : Cst} {s : St}
set_option maxRecDepth 100000 in
set_option maxHeartbeats 32000000 in
theorem head_any (h : Is B w0 w wb k s) (T : Nat) (hT : T ≤ 800000) (hd : Bd s T) (hg : ∀ wx, Below B w0 wx → Gl wx) (x : It) (hx : x.s.length ≤ 100) :
    Calls Tryz.prog 26 #[.pointer (some ⟨wb, 0, none⟩), .agg #[.int .i64 x.kind, vs x.s]] w fun e' w' => e' = .returned (.tuple #[]) ∧ Is B w0 w' wb k (Nb.head s x) := by
  obtain ⟨w1, hw1⟩ : ∃ w1, w1 = w.alloc (.cells #[.int .i64 x.kind, vs x.s] 59) := ⟨_, rfl⟩
  have hb1 : Below w.heap.size w w1 := by rw [hw1]; exact (Below.refl _ _).alloc (Nat.le_refl _) _
  have hnew : w1.heap[w.heap.size]? = some (.cells #[.int .i64 x.kind, vs x.s] 59 (0, 0)) := by rw [hw1]; exact heap_alloc_new w _
  have hk := h.keep hb1 w.heap.size _ (Nat.le_refl _) hnew
  have HK1 := Lib.hid hk
  have HW1 := Lib.hid hw1
  have HGL := Lib.hid hg
  have HBD := Lib.hid hd
  have hl1 := hd.hd
  have hl2 := hd.ha
  have hl3 := hd.wo
  have hl4 := hd.sc
  have hl5 := hd.su
  have hl6 := hd.bl
  have hx1 : w1.cell? ⟨w.heap.size, 1, none⟩ = some (vs x.s) := by rw [Lib.cell_of_heap hnew]; rfl
  obtain ⟨v, hv⟩ := hk
  obtain ⟨A1, c1, hv2⟩ : ∃ A c, v 2 = .slice A s.heads.length c := own_slice (hv.ow.own 2 (by omega))
  have y2 : w1.cell? ⟨wb, 2, none⟩ = some (.slice A1 s.heads.length c1) := (hv.cell 2).trans (by rw [← hv2]; rfl)
  have HNT := Lib.hid (note_any HK1.out 3 x.s (by have := hd.nt; omega))
  have HCL := Lib.hid (close_any HK1.out)
  rw [hw1] at y2 hx1
  by_cases h100 : 100 ≤ s.heads.length
  · have h1i : (100 : Int) ≤ (s.heads.length : Int) := by omega
    have HR : Hid (Nb.head s x = Nb.note s 3 x.s) := Lib.hid (by unfold Nb.head; rw [if_pos h100])
    clear h hd hg hb1 hnew hv hv2 hw1 h100
    go_enter Tryz.func26, Tryz.ntmps26
    go_wp2_with fail
    rw [← HW1.out]
    refine HNT.out.mono ?_
    rintro e w2 ⟨rfl, H2⟩
    have HK2 := Lib.hid H2
    clear H2
    go_wp2_with fail
    refine bodyPost_ret (results_none rfl _ _ _) rfl ?_
    exact ⟨rfl, by rw [HR.out]; exact Is.free (R := [(w.heap.size, (.cells #[.int .i64 x.kind, vs x.s] 59 (0, 0)))]) HK2.out⟩
  · have h1i : ¬ ((100 : Int) ≤ (s.heads.length : Int)) := by omega
    have HR : Hid (Nb.head s x = Nb.block { Nb.close s with ha := s.ha ++ [((headNum (Nb.close s) x).words : Int)], heads := s.heads ++ [⟨if x.kind = 4 then 1 else 2, (headNum (Nb.close s) x).last, x.s, 0⟩], c := headNum (Nb.close s) x } 1 ((headNum (Nb.close s) x).last :: spl x.s)) := Lib.hid (by unfold Nb.head; rw [if_neg h100]; rfl)
    have HWO : Hid ((headNum (Nb.close s) x).words = s.c.words) := Lib.hid (by unfold headNum; split <;> rfl)
    clear h hd hg hb1 hnew hv hv2 hw1 h100
    go_enter Tryz.func26, Tryz.ntmps26
    go_wp2_with fail
    rw [← HW1.out]
    refine HCL.out.mono ?_
    rintro e w2 ⟨rfl, H2⟩
    have HK2 := Lib.hid H2
    have z0 : w2.cell? ⟨w.heap.size, 0, none⟩ = some (.int .i64 x.kind) := by rw [Lib.cell_of_heap (H2.res (p := (w.heap.size, (.cells #[.int .i64 x.kind, vs x.s] 59 (0, 0)))) (by simp))]; rfl
    have y19 : w2.cell? ⟨wb, 19, none⟩ = some (.int .i64 s.c.sec) := H2.cells.1.2.2.2.1
    have y20 : w2.cell? ⟨wb, 20, none⟩ = some (.int .i64 s.c.sub) := H2.cells.1.2.2.2.2.1
    clear H2 y2 hx1
    go_upto_if 21 with fail
    go_cut [4] from 19 to 66 (fun lv wx => lv = .int .i64 (if x.kind = 4 then 1 else 2) ∧ Is B w0 wx wb { k with res := (w.heap.size, (.cells #[.int .i64 x.kind, vs x.s] 59 (0, 0))) :: k.res } { Nb.close s with c := headNum (Nb.close s) x })
    case first =>
      by_cases h4 : x.kind = 4
      · have h4b : (x.kind == 4) = true := by simp [h4]
        have HNM : Hid (headNum (Nb.close s) x = { (Nb.close s).c with sec := s.c.sec + 1, sub := 0, last := dig (s.c.sec + 1 : Nat) }) := Lib.hid (by unfold headNum; rw [if_pos h4]; rfl)
        have HIF : Hid ((if x.kind = 4 then (1 : Int) else 2) = 1) := Lib.hid (if_pos h4)
        have HMR := Lib.hid (more_any (wb := wb) s.c.sec (by omega) [115, 101, 99, 116, 105, 111, 110] w2)
        obtain ⟨n1, hn1⟩ : ∃ n1, n1 = s.c.sec + 1 := ⟨_, rfl⟩
        rw [← hn1] at HMR HNM
        clear h4 hn1
        go_wp2_with fail
        refine HMR.out.mono ?_
        rintro e w3 ⟨rfl, b3⟩
        have HK3 := Lib.hid (HK2.out.below b3)
        have HK4 := Lib.hid (HK3.out.sec n1)
        have HK5 := Lib.hid (HK4.out.sub 0)
        have f19 := HK3.out.cells.2 19
        have z19 := HK3.out.cells.1.2.2.2.1
        have f20 := HK4.out.cells.2 20
        have z20 := HK4.out.cells.1.2.2.2.2.1
        have x19 := HK5.out.cells.1.2.2.2.1
        have HTX := Lib.hid (cnText_any (n1 : Int) _ (HGL.out _ HK5.out.bel))
        simp only at z19 z20 x19
        clear b3 y19 y20
        go_wp2_with fail
        refine HTX.out.mono ?_
        rintro e w6 ⟨rfl, b6⟩
        have HK6 := Lib.hid (HK5.out.below b6)
        have f22 := HK6.out.cells.2 22
        have y22 := HK6.out.cells.1.2.2.2.2.2.2
        simp only at y22
        clear b6 z19 z20 x19 f19 f20 z0
        go_wp2_with fail
        go_meet
        refine ⟨by rw [HIF.out], ?_⟩
        have h9 := HK6.out.last (dig n1)
        rw [HNM.out]
        exact h9
      · have h4b : (x.kind == 4) = false := by simp [h4]
        have HNM : Hid (headNum (Nb.close s) x = { (Nb.close s).c with sub := s.c.sub + 1, last := dig s.c.sec ++ 46 :: dig (s.c.sub + 1 : Nat) }) := Lib.hid (by unfold headNum; rw [if_neg h4]; rfl)
        have HIF : Hid ((if x.kind = 4 then (1 : Int) else 2) = 2) := Lib.hid (if_neg h4)
        have HMR := Lib.hid (more_any (wb := wb) s.c.sub (by omega) [115, 117, 98] w2)
        obtain ⟨n1, hn1⟩ : ∃ n1, n1 = s.c.sub + 1 := ⟨_, rfl⟩
        rw [← hn1] at HMR HNM
        clear h4 hn1
        go_wp2_with fail
        refine HMR.out.mono ?_
        rintro e w3 ⟨rfl, b3⟩
        have HK3 := Lib.hid (HK2.out.below b3)
        have HK4 := Lib.hid (HK3.out.sub n1)
        have f20 := HK3.out.cells.2 20
        have z20 := HK3.out.cells.1.2.2.2.2.1
        clear b3 y19 y20
        go_upto_region 10 with fail
        obtain ⟨w4, hw4⟩ : ∃ w4, w4 = w3.setCell ⟨wb, 20, none⟩ (.int .i64 n1) := ⟨_, rfl⟩
        have hK4 := HK4.out
        rw [← hw4] at hK4 ⊢
        have HK5 := Lib.hid hK4
        clear z20 f20 hw4 HK4
        obtain ⟨d1, hd1⟩ : ∃ d1, d1 = dig s.c.sec := ⟨_, rfl⟩
        obtain ⟨d2, hd2⟩ : ∃ d2, d2 = dig n1 := ⟨_, rfl⟩
        have hdl1 := dig_len6 s.c.sec
        have hdl2 := dig_len6 n1
        have o1 : bs d1 ++ (⟨#[46]⟩ : ByteArray) = bs (d1 ++ [46]) := by show bs d1 ++ bs [46] = _; rw [bs_append]
        have o2 : bs (d1 ++ [46]) ++ bs d2 = bs (d1 ++ 46 :: d2) := by rw [bs_append]; simp
        have l1 : (bs d1).size = d1.length := bs_size _
        have l2 : (bs (d1 ++ [46])).size = d1.length + 1 := by rw [bs_size]; simp
        have l3 : (bs d2).size = d2.length := bs_size _
        have HT1 := Lib.hid (fun wx hb => cnText_any (s.c.sec : Int) wx (HGL.out wx hb))
        have HT2 := Lib.hid (fun wx hb => cnText_any (n1 : Int) wx (HGL.out wx hb))
        rw [← hd1] at HT1 HNM hdl1
        rw [← hd2] at HT2 HNM hdl2
        have g1 : ¬ (9223372036854775807 < d1.length + 1) := by omega
        have g2 : ¬ (9223372036854775807 < d1.length + 1 + d2.length) := by omega
        clear hd1 hd2
        have hS0 : (fun wz : World => wz.cell? ⟨wb, 19, none⟩ = some (.int .i64 s.c.sec) ∧ wz.cell? ⟨wb, 20, none⟩ = some (.int .i64 n1)) w4.drew := ⟨hK4.cells.1.2.2.2.1, hK4.cells.1.2.2.2.2.1⟩
        clear hK4
        refine wp_region_headS 13 (fun wz : World => wz.cell? ⟨wb, 19, none⟩ = some (.int .i64 s.c.sec) ∧ wz.cell? ⟨wb, 20, none⟩ = some (.int .i64 n1)) (by kernel_rfl) (by kernel_rfl) ?_
        refine WS_take (i := 0) (v := ?vp0) (by simp only [List.getElem?_toArray, List.getElem?_cons_zero]; rfl) (by decide) (by kernel_rfl) (by kernel_rfl) (by intro _ _ _ h; exact h) (Or.inl ⟨by rfl, ?hyp0⟩) hS0 ?restp0
        case hyp0 =>
          intro wx hx
          obtain ⟨s1, s2⟩ := hx
          go_simp
          try with_reducible rfl
        try simp only [Act.put, List.setIfInBounds_toArray, List.set_cons_zero, List.set_cons_succ]
        refine WS_take (i := 1) (v := ?vp1) (by simp only [List.getElem?_toArray, List.getElem?_cons_succ, List.getElem?_cons_zero]; rfl) (by decide) (by kernel_rfl) (by kernel_rfl) (by intro _ _ _ h; exact h) (Or.inl ⟨by rfl, ?hyp1⟩) hS0 ?restp1
        case hyp1 =>
          intro wx hx
          obtain ⟨s1, s2⟩ := hx
          go_simp
          try with_reducible rfl
        try simp only [Act.put, List.setIfInBounds_toArray, List.set_cons_zero, List.set_cons_succ]
        refine WS_take (i := 2) (v := ?vp2) (by simp only [List.getElem?_toArray, List.getElem?_cons_succ, List.getElem?_cons_zero]; rfl) (by decide) (by kernel_rfl) (by kernel_rfl) (by intro _ _ _ h; exact h) (Or.inl ⟨by rfl, ?hyp2⟩) hS0 ?restp2
        case hyp2 =>
          intro wx hx
          obtain ⟨s1, s2⟩ := hx
          go_simp
          try with_reducible rfl
        try simp only [Act.put, List.setIfInBounds_toArray, List.set_cons_zero, List.set_cons_succ]
        refine WS_take (i := 3) (v := ?vp3) (by simp only [List.getElem?_toArray, List.getElem?_cons_succ, List.getElem?_cons_zero]; rfl) (by decide) (by kernel_rfl) (by kernel_rfl) (by intro _ _ _ h; exact h) (Or.inl ⟨by rfl, ?hyp3⟩) hS0 ?restp3
        case hyp3 =>
          intro wx hx
          obtain ⟨s1, s2⟩ := hx
          go_simp
          try with_reducible rfl
        try simp only [Act.put, List.setIfInBounds_toArray, List.set_cons_zero, List.set_cons_succ]
        refine WS_take (i := 4) (v := ?vp4) (by simp only [List.getElem?_toArray, List.getElem?_cons_succ, List.getElem?_cons_zero]; rfl) (by decide) (by kernel_rfl) (by kernel_rfl) (by intro _ _ _ h; exact h) (Or.inl ⟨by rfl, ?hyp4⟩) hS0 ?restp4
        case hyp4 =>
          intro wx hx
          obtain ⟨s1, s2⟩ := hx
          go_simp
          try with_reducible rfl
        try simp only [Act.put, List.setIfInBounds_toArray, List.set_cons_zero, List.set_cons_succ]
        refine WS_take (i := 7) (v := ?vp7) (by simp only [List.getElem?_toArray, List.getElem?_cons_succ, List.getElem?_cons_zero]; rfl) (by decide) (by kernel_rfl) (by kernel_rfl) (by intro _ _ _ h; exact h) (Or.inl ⟨by rfl, ?hyp7⟩) hS0 ?restp7
        case hyp7 =>
          intro wx hx
          obtain ⟨s1, s2⟩ := hx
          go_simp
          try with_reducible rfl
        try simp only [Act.put, List.setIfInBounds_toArray, List.set_cons_zero, List.set_cons_succ]
        refine WS_take (i := 8) (v := ?vp8) (by simp only [List.getElem?_toArray, List.getElem?_cons_succ, List.getElem?_cons_zero]; rfl) (by decide) (by kernel_rfl) (by kernel_rfl) (by intro _ _ _ h; exact h) (Or.inl ⟨by rfl, ?hyp8⟩) hS0 ?restp8
        case hyp8 =>
          intro wx hx
          obtain ⟨s1, s2⟩ := hx
          go_simp
          try with_reducible rfl
        try simp only [Act.put, List.setIfInBounds_toArray, List.set_cons_zero, List.set_cons_succ]
        refine WS_take (i := 9) (v := ?vp9) (by simp only [List.getElem?_toArray, List.getElem?_cons_succ, List.getElem?_cons_zero]; rfl) (by decide) (by kernel_rfl) (by kernel_rfl) (by intro _ _ _ h; exact h) (Or.inl ⟨by rfl, ?hyp9⟩) hS0 ?restp9
        case hyp9 =>
          intro wx hx
          obtain ⟨s1, s2⟩ := hx
          go_simp
          try with_reducible rfl
        try simp only [Act.put, List.setIfInBounds_toArray, List.set_cons_zero, List.set_cons_succ]
        refine WS_take (i := 10) (v := ?vp10) (by simp only [List.getElem?_toArray, List.getElem?_cons_succ, List.getElem?_cons_zero]; rfl) (by decide) (by kernel_rfl) (by kernel_rfl) (by intro _ _ _ h; exact h) (Or.inl ⟨by rfl, ?hyp10⟩) hS0 ?restp10
        case hyp10 =>
          intro wx hx
          obtain ⟨s1, s2⟩ := hx
          go_simp
          try with_reducible rfl
        try simp only [Act.put, List.setIfInBounds_toArray, List.set_cons_zero, List.set_cons_succ]
        refine WS_one (i := 5) (by simp only [List.getElem?_toArray, List.getElem?_cons_succ, List.getElem?_cons_zero]; rfl) (by decide) (by kernel_rfl) (fun K hK => (if_pos (by kernel_rfl)).mpr ?_)
        go_simp
        refine (HT1.out w4.drew (HK5.out.bel.trans (below_of_drewN 1))).mono ?_
        rintro e w5 ⟨rfl, b5⟩
        dsimp only
        have HK6 := Lib.hid (HK5.out.below ((Below.refl w4.heap.size w4).drew.trans b5))
        have hS5 : (fun wz : World => wz.cell? ⟨wb, 19, none⟩ = some (.int .i64 s.c.sec) ∧ wz.cell? ⟨wb, 20, none⟩ = some (.int .i64 n1)) w5 := ⟨HK6.out.cells.1.2.2.2.1, HK6.out.cells.1.2.2.2.2.1⟩
        refine hK _ _ hS5 ?_
        clear hK K b5 hS0
        try simp only [Act.put, List.setIfInBounds_toArray, List.set_cons_zero, List.set_cons_succ]
        refine WS_take (i := 6) (v := ?vq6) (by simp only [List.getElem?_toArray, List.getElem?_cons_succ, List.getElem?_cons_zero]; rfl) (by decide) (by kernel_rfl) (by kernel_rfl) (by intro _ _ _ h; exact h) (Or.inl ⟨by rfl, ?hyq6⟩) hS5 ?restq6
        case hyq6 =>
          intro wx hx
          obtain ⟨s1, s2⟩ := hx
          go_simp
          try with_reducible rfl
        try simp only [Act.put, List.setIfInBounds_toArray, List.set_cons_zero, List.set_cons_succ]
        refine WS_one (i := 11) (by simp only [List.getElem?_toArray, List.getElem?_cons_succ, List.getElem?_cons_zero]; rfl) (by decide) (by kernel_rfl) (fun K hK => (if_pos (by kernel_rfl)).mpr ?_)
        go_simp
        refine (HT2.out w5 HK6.out.bel).mono ?_
        rintro e w6 ⟨rfl, b6⟩
        dsimp only
        have HK7 := Lib.hid (HK6.out.below b6)
        have hS6 : (fun wz : World => wz.cell? ⟨wb, 19, none⟩ = some (.int .i64 s.c.sec) ∧ wz.cell? ⟨wb, 20, none⟩ = some (.int .i64 n1)) w6 := ⟨HK7.out.cells.1.2.2.2.1, HK7.out.cells.1.2.2.2.2.1⟩
        refine hK _ _ hS6 ?_
        clear hK K b6 hS5
        try simp only [Act.put, List.setIfInBounds_toArray, List.set_cons_zero, List.set_cons_succ]
        refine WS_take (i := 12) (v := ?vr12) (by simp only [List.getElem?_toArray, List.getElem?_cons_succ, List.getElem?_cons_zero]; rfl) (by decide) (by kernel_rfl) (by kernel_rfl) (by intro _ _ _ h; exact h) (Or.inl ⟨by rfl, ?hyr12⟩) hS6 ?restr12
        case hyr12 =>
          intro wx hx
          obtain ⟨s1, s2⟩ := hx
          go_simp
          try with_reducible rfl
        try simp only [Act.put, List.setIfInBounds_toArray, List.set_cons_zero, List.set_cons_succ]
        refine WS_done (by kernel_rfl) ?_
        simp only [List.drop_succ_cons, List.drop_zero]
        have f22 := HK7.out.cells.2 22
        have y22 := HK7.out.cells.1.2.2.2.2.2.2
        simp only at y22
        clear hS6 z0
        go_wp2_with fail
        go_meet
        refine ⟨by rw [HIF.out], ?_⟩
        have h9 := HK7.out.last (d1 ++ 46 :: d2)
        rw [HNM.out]
        exact h9
    case rest =>
      obtain ⟨rfl, hI⟩ := hcut
      obtain ⟨w7, hw7⟩ : ∃ w7, w7 = wc := ⟨_, rfl⟩
      subst hw7
      have HK7 := Lib.hid hI
      clear hI z0 y19 y20
      obtain ⟨hC, hhC⟩ : ∃ c, c = headNum (Nb.close s) x := ⟨_, rfl⟩
      obtain ⟨lvl, hlv⟩ : ∃ l : Int, l = if x.kind = 4 then 1 else 2 := ⟨_, rfl⟩
      rw [← hlv]
      have HIs := HK7.out
      rw [← hhC] at HIs
      have HI7 := Lib.hid HIs
      rw [← hhC] at HR HWO
      rw [← hlv] at HR
      clear HIs hhC hlv HK7
      go_upto_region 11 with fail
      obtain ⟨WXe, hWX⟩ : ∃ WX, WX = w7 := ⟨_, rfl⟩
      have hI1 := HI7.out
      rw [← hWX] at hI1 ⊢
      obtain ⟨ve, hwe⟩ := hI1
      obtain ⟨A6, c6, hve⟩ : ∃ A c, ve 6 = .slice A s.ha.length c := own_slice (hwe.ow.own 6 (by omega))
      have HVe := Lib.hid hve
      have hbd : Below WXe.heap.size WXe (WXe.drew.alloc (.cells #[.int .i64 hC.words] 3)) := ((Below.refl WXe.heap.size WXe).drew).alloc (Nat.le_refl _) _
      have hw0 := hwe.below ((Below.refl WXe.heap.size WXe).drew)
      have hW1 := hwe.below hbd
      have HWe := Lib.hid hW1
      have HDe := Lib.hid (heap_alloc_new WXe.drew (.cells #[.int .i64 hC.words] 3))
      have hS0 : (fun wz : World => wz.cell? ⟨wb, 6, none⟩ = some (.slice A6 s.ha.length c6) ∧ wz.cell? ⟨wb, 18, none⟩ = some (.int .i64 hC.words)) WXe.drew := ⟨(hw0.cell 6).trans (by rw [← hve]; rfl), (hw0.cell 18)⟩
      have hS1 : (fun wz : World => wz.cell? ⟨wb, 6, none⟩ = some (.slice A6 s.ha.length c6) ∧ wz.cell? ⟨wb, 18, none⟩ = some (.int .i64 hC.words)) (WXe.drew.alloc (.cells #[.int .i64 hC.words] 3)) := ⟨(hW1.cell 6).trans (by rw [← hve]; rfl), (hW1.cell 18)⟩
      obtain ⟨ie, hi0, hz0, hz1, hz2⟩ := info_parts intInfo
      clear hW1 hw0 hbd hWX hve hwe
      refine wp_region_headS 12 (fun wz : World => wz.cell? ⟨wb, 6, none⟩ = some (.slice A6 s.ha.length c6) ∧ wz.cell? ⟨wb, 18, none⟩ = some (.int .i64 hC.words)) (by kernel_rfl) (by kernel_rfl) ?_
      refine WS_take (i := 0) (v := ?vs0) (by simp only [List.getElem?_toArray, List.getElem?_cons_zero]; rfl) (by decide) (by kernel_rfl) (by kernel_rfl) (by intro _ _ _ h; exact h) (Or.inl ⟨by rfl, ?hys0⟩) hS0 ?rests0
      case hys0 =>
        intro wx hx
        obtain ⟨s1, s2⟩ := hx
        go_simp
        try with_reducible rfl
      try simp only [Act.put, List.setIfInBounds_toArray, List.set_cons_zero, List.set_cons_succ]
      refine WS_take (i := 1) (v := ?vs1) (by simp only [List.getElem?_toArray, List.getElem?_cons_succ, List.getElem?_cons_zero]; rfl) (by decide) (by kernel_rfl) (by kernel_rfl) (by intro _ _ _ h; exact h) (Or.inl ⟨by rfl, ?hys1⟩) hS0 ?rests1
      case hys1 =>
        intro wx hx
        obtain ⟨s1, s2⟩ := hx
        go_simp
        try with_reducible rfl
      try simp only [Act.put, List.setIfInBounds_toArray, List.set_cons_zero, List.set_cons_succ]
      refine WS_take (i := 2) (v := ?vs2) (by simp only [List.getElem?_toArray, List.getElem?_cons_succ, List.getElem?_cons_zero]; rfl) (by decide) (by kernel_rfl) (by kernel_rfl) (by intro _ _ _ h; exact h) (Or.inl ⟨by rfl, ?hys2⟩) hS0 ?rests2
      case hys2 =>
        intro wx hx
        obtain ⟨s1, s2⟩ := hx
        go_simp
        try with_reducible rfl
      try simp only [Act.put, List.setIfInBounds_toArray, List.set_cons_zero, List.set_cons_succ]
      refine WS_take (i := 3) (v := ?vs3) (by simp only [List.getElem?_toArray, List.getElem?_cons_succ, List.getElem?_cons_zero]; rfl) (by decide) (by kernel_rfl) (by kernel_rfl) (by intro _ _ _ h; exact h) (Or.inl ⟨by rfl, ?hys3⟩) hS0 ?rests3
      case hys3 =>
        intro wx hx
        obtain ⟨s1, s2⟩ := hx
        go_simp
        try with_reducible rfl
      try simp only [Act.put, List.setIfInBounds_toArray, List.set_cons_zero, List.set_cons_succ]
      refine WS_take (i := 4) (v := ?vs4) (by simp only [List.getElem?_toArray, List.getElem?_cons_succ, List.getElem?_cons_zero]; rfl) (by decide) (by kernel_rfl) (by kernel_rfl) (by intro _ _ _ h; exact h) (Or.inl ⟨by rfl, ?hys4⟩) hS0 ?rests4
      case hys4 =>
        intro wx hx
        obtain ⟨s1, s2⟩ := hx
        go_simp
        try with_reducible rfl
      try simp only [Act.put, List.setIfInBounds_toArray, List.set_cons_zero, List.set_cons_succ]
      refine WS_take (i := 5) (v := ?vs5) (by simp only [List.getElem?_toArray, List.getElem?_cons_succ, List.getElem?_cons_zero]; rfl) (by decide) (by kernel_rfl) (by kernel_rfl) (by intro _ _ _ h; exact h) (Or.inl ⟨by rfl, ?hys5⟩) hS0 ?rests5
      case hys5 =>
        intro wx hx
        obtain ⟨s1, s2⟩ := hx
        go_simp
        try with_reducible rfl
      try simp only [Act.put, List.setIfInBounds_toArray, List.set_cons_zero, List.set_cons_succ]
      refine WS_take (i := 6) (v := ?vs6) (by simp only [List.getElem?_toArray, List.getElem?_cons_succ, List.getElem?_cons_zero]; rfl) (by decide) (by kernel_rfl) (by kernel_rfl) (by intro _ _ _ h; exact h) (Or.inl ⟨by rfl, ?hys6⟩) hS0 ?rests6
      case hys6 =>
        intro wx hx
        obtain ⟨s1, s2⟩ := hx
        go_simp
        try with_reducible rfl
      try simp only [Act.put, List.setIfInBounds_toArray, List.set_cons_zero, List.set_cons_succ]
      refine WS_take (i := 7) (v := ?vs7) (by simp only [List.getElem?_toArray, List.getElem?_cons_succ, List.getElem?_cons_zero]; rfl) (by decide) (by kernel_rfl) (by kernel_rfl) (by intro _ _ _ h; exact h) (Or.inl ⟨by rfl, ?hys7⟩) hS0 ?rests7
      case hys7 =>
        intro wx hx
        obtain ⟨s1, s2⟩ := hx
        go_simp
        try with_reducible rfl
      try simp only [Act.put, List.setIfInBounds_toArray, List.set_cons_zero, List.set_cons_succ]
      refine WS_take (i := 8) (v := ?vs8) (by simp only [List.getElem?_toArray, List.getElem?_cons_succ, List.getElem?_cons_zero]; rfl) (by decide) (by kernel_rfl) (by kernel_rfl) (by intro _ _ _ h; exact h) (Or.inl ⟨by rfl, ?hys8⟩) hS0 ?rests8
      case hys8 =>
        intro wx hx
        obtain ⟨s1, s2⟩ := hx
        go_simp
        try with_reducible rfl
      try simp only [Act.put, List.setIfInBounds_toArray, List.set_cons_zero, List.set_cons_succ]
      refine WS_take (i := 9) (v := ?vs9) (by simp only [List.getElem?_toArray, List.getElem?_cons_succ, List.getElem?_cons_zero]; rfl) (by decide) (by kernel_rfl) (by kernel_rfl) (by intro _ _ _ h; exact h) (Or.inl ⟨by rfl, ?hys9⟩) hS0 ?rests9
      case hys9 =>
        intro wx hx
        obtain ⟨s1, s2⟩ := hx
        go_simp
        try with_reducible rfl
      try simp only [Act.put, List.setIfInBounds_toArray, List.set_cons_zero, List.set_cons_succ]
      refine WS_one (i := 10) (by simp only [List.getElem?_toArray, List.getElem?_cons_succ, List.getElem?_cons_zero]; rfl) (by decide) (by kernel_rfl) (fun K hK => (if_pos (by kernel_rfl)).mpr ?_)
      go_simp
      refine hK _ _ hS1 ?_
      clear hK K
      try simp only [Act.put, List.setIfInBounds_toArray, List.set_cons_zero, List.set_cons_succ]
      refine WS_one (i := 11) (by simp only [List.getElem?_toArray, List.getElem?_cons_succ, List.getElem?_cons_zero]; rfl) (by decide) (by kernel_rfl) (fun K hK => step_appB (by rfl) (.tmp 72) (.tmp 77) 37 (by rfl) B 3 ie _ 1 8 Tryz.underlying37 hi0 hz0 hz1 hz2 (by rfl) (by decide) (.slice A6 s.ha.length c6) s.ha.length (s.ha.flatMap inF) (inF (hC.words : Int)) rfl (by simp [inF, Value.oneCell']) (by rfl) WXe.drew.heap.size (by rfl) HDe.out (HVe.out ▸ HWe.out.ow.own 6 (by omega)) HWe.out.hB (by simp only [maxLen]; omega) (by omega) ?_)
      intro v' w' h1 h2 h3
      obtain ⟨⟨A', c', hv'⟩, hc, hf, hI⟩ := HWe.out.push (s' := { Nb.close s with ha := s.ha ++ [(hC.words : Int)], c := hC }) 6 (by omega) rfl rfl rfl (fun j h1 h2 h3 => by rcases ten_cases h3 with rfl | rfl | rfl | rfl | rfl | rfl | rfl | rfl | rfl | rfl <;> first | rfl | omega) (by simpa [Desc.Is, desc] using h1) (by rw [HVe.out]; exact h2) (by rw [HVe.out]; exact h3)
      obtain ⟨A', n', c', rfl⟩ : ∃ A n c, v' = .slice A n c := ⟨_, _, _, hv'⟩
      clear hv'
      have hS2 : (fun wz : World => wz.cell? ⟨wb, 6, none⟩ = some (.slice A6 s.ha.length c6) ∧ wz.cell? ⟨wb, 18, none⟩ = some (.int .i64 hC.words)) w' := ⟨(hc 6).trans (by rw [← HVe.out]; rfl), hc 18⟩
      have ya := hc 6
      have yf := hf 6
      simp only [wcells, List.getElem?_cons_succ, List.getElem?_cons_zero] at ya
      have HIf := Lib.hid hI
      refine hK _ _ hS2 ?_
      clear hK K h1 h2 h3 hc hf hI hS2 hS0 hS1
      try simp only [Act.put, List.setIfInBounds_toArray, List.set_cons_zero, List.set_cons_succ]
      refine WS_done (by kernel_rfl) ?_
      simp only [List.drop_succ_cons, List.drop_zero]
      go_upto_region 12 with fail
      obtain ⟨WXg, hWX⟩ : ∃ WX, WX = w'.setCell ⟨wb, 6, none⟩ (.slice A' n' c') := ⟨_, rfl⟩
      have hI1 := HIf.out
      rw [← hWX] at hI1 ⊢
      obtain ⟨vg, hwg⟩ := hI1
      obtain ⟨A7, c7, hvg⟩ : ∃ A c, vg 2 = .slice A s.heads.length c := own_slice (hwg.ow.own 2 (by omega))
      have HVg := Lib.hid hvg
      have hbd : Below WXg.heap.size WXg (WXg.drew.alloc (.cells #[.int .i64 lvl, vs hC.last, vs x.s, .int .i64 0] 65)) := ((Below.refl WXg.heap.size WXg).drew).alloc (Nat.le_refl _) _
      have hw0 := hwg.below ((Below.refl WXg.heap.size WXg).drew)
      have hW1 := hwg.below hbd
      have HWg := Lib.hid hW1
      have HDg := Lib.hid (heap_alloc_new WXg.drew (.cells #[.int .i64 lvl, vs hC.last, vs x.s, .int .i64 0] 65))
      have hS0 : (fun wz : World => wz.cell? ⟨wb, 2, none⟩ = some (.slice A7 s.heads.length c7) ∧ wz.cell? ⟨wb, 22, none⟩ = some (vs hC.last) ∧ wz.cell? ⟨w.heap.size, 1, none⟩ = some (vs x.s)) WXg.drew := ⟨(hw0.cell 2).trans (by rw [← hvg]; rfl), (hw0.cell 22), (by rw [Lib.cell_of_heap (hw0.res (w.heap.size, (.cells #[.int .i64 x.kind, vs x.s] 59 (0, 0))) (by simp)).1]; rfl)⟩
      have hS1 : (fun wz : World => wz.cell? ⟨wb, 2, none⟩ = some (.slice A7 s.heads.length c7) ∧ wz.cell? ⟨wb, 22, none⟩ = some (vs hC.last) ∧ wz.cell? ⟨w.heap.size, 1, none⟩ = some (vs x.s)) (WXg.drew.alloc (.cells #[.int .i64 lvl, vs hC.last, vs x.s, .int .i64 0] 65)) := ⟨(hW1.cell 2).trans (by rw [← hvg]; rfl), (hW1.cell 22), (by rw [Lib.cell_of_heap (hW1.res (w.heap.size, (.cells #[.int .i64 x.kind, vs x.s] 59 (0, 0))) (by simp)).1]; rfl)⟩
      obtain ⟨ig, hi0, hz0, hz1, hz2⟩ := info_parts hdInfo
      clear hW1 hw0 hbd hWX hvg hwg
      clear ya yf
      refine wp_region_headS 17 (fun wz : World => wz.cell? ⟨wb, 2, none⟩ = some (.slice A7 s.heads.length c7) ∧ wz.cell? ⟨wb, 22, none⟩ = some (vs hC.last) ∧ wz.cell? ⟨w.heap.size, 1, none⟩ = some (vs x.s)) (by kernel_rfl) (by kernel_rfl) ?_
      refine WS_take (i := 0) (v := ?vt0) (by simp only [List.getElem?_toArray, List.getElem?_cons_zero]; rfl) (by decide) (by kernel_rfl) (by kernel_rfl) (by intro _ _ _ h; exact h) (Or.inl ⟨by rfl, ?hyt0⟩) hS0 ?restt0
      case hyt0 =>
        intro wx hx
        obtain ⟨s1, s2, s3⟩ := hx
        go_simp
        try with_reducible rfl
      try simp only [Act.put, List.setIfInBounds_toArray, List.set_cons_zero, List.set_cons_succ]
      refine WS_take (i := 1) (v := ?vt1) (by simp only [List.getElem?_toArray, List.getElem?_cons_succ, List.getElem?_cons_zero]; rfl) (by decide) (by kernel_rfl) (by kernel_rfl) (by intro _ _ _ h; exact h) (Or.inl ⟨by rfl, ?hyt1⟩) hS0 ?restt1
      case hyt1 =>
        intro wx hx
        obtain ⟨s1, s2, s3⟩ := hx
        go_simp
        try with_reducible rfl
      try simp only [Act.put, List.setIfInBounds_toArray, List.set_cons_zero, List.set_cons_succ]
      refine WS_take (i := 2) (v := ?vt2) (by simp only [List.getElem?_toArray, List.getElem?_cons_succ, List.getElem?_cons_zero]; rfl) (by decide) (by kernel_rfl) (by kernel_rfl) (by intro _ _ _ h; exact h) (Or.inl ⟨by rfl, ?hyt2⟩) hS0 ?restt2
      case hyt2 =>
        intro wx hx
        obtain ⟨s1, s2, s3⟩ := hx
        go_simp
        try with_reducible rfl
      try simp only [Act.put, List.setIfInBounds_toArray, List.set_cons_zero, List.set_cons_succ]
      refine WS_take (i := 3) (v := ?vt3) (by simp only [List.getElem?_toArray, List.getElem?_cons_succ, List.getElem?_cons_zero]; rfl) (by decide) (by kernel_rfl) (by kernel_rfl) (by intro _ _ _ h; exact h) (Or.inl ⟨by rfl, ?hyt3⟩) hS0 ?restt3
      case hyt3 =>
        intro wx hx
        obtain ⟨s1, s2, s3⟩ := hx
        go_simp
        try with_reducible rfl
      try simp only [Act.put, List.setIfInBounds_toArray, List.set_cons_zero, List.set_cons_succ]
      refine WS_take (i := 4) (v := ?vt4) (by simp only [List.getElem?_toArray, List.getElem?_cons_succ, List.getElem?_cons_zero]; rfl) (by decide) (by kernel_rfl) (by kernel_rfl) (by intro _ _ _ h; exact h) (Or.inl ⟨by rfl, ?hyt4⟩) hS0 ?restt4
      case hyt4 =>
        intro wx hx
        obtain ⟨s1, s2, s3⟩ := hx
        go_simp
        try with_reducible rfl
      try simp only [Act.put, List.setIfInBounds_toArray, List.set_cons_zero, List.set_cons_succ]
      refine WS_take (i := 5) (v := ?vt5) (by simp only [List.getElem?_toArray, List.getElem?_cons_succ, List.getElem?_cons_zero]; rfl) (by decide) (by kernel_rfl) (by kernel_rfl) (by intro _ _ _ h; exact h) (Or.inl ⟨by rfl, ?hyt5⟩) hS0 ?restt5
      case hyt5 =>
        intro wx hx
        obtain ⟨s1, s2, s3⟩ := hx
        go_simp
        try with_reducible rfl
      try simp only [Act.put, List.setIfInBounds_toArray, List.set_cons_zero, List.set_cons_succ]
      refine WS_take (i := 6) (v := ?vt6) (by simp only [List.getElem?_toArray, List.getElem?_cons_succ, List.getElem?_cons_zero]; rfl) (by decide) (by kernel_rfl) (by kernel_rfl) (by intro _ _ _ h; exact h) (Or.inl ⟨by rfl, ?hyt6⟩) hS0 ?restt6
      case hyt6 =>
        intro wx hx
        obtain ⟨s1, s2, s3⟩ := hx
        go_simp
        try with_reducible rfl
      try simp only [Act.put, List.setIfInBounds_toArray, List.set_cons_zero, List.set_cons_succ]
      refine WS_take (i := 7) (v := ?vt7) (by simp only [List.getElem?_toArray, List.getElem?_cons_succ, List.getElem?_cons_zero]; rfl) (by decide) (by kernel_rfl) (by kernel_rfl) (by intro _ _ _ h; exact h) (Or.inl ⟨by rfl, ?hyt7⟩) hS0 ?restt7
      case hyt7 =>
        intro wx hx
        obtain ⟨s1, s2, s3⟩ := hx
        go_simp
        try with_reducible rfl
      try simp only [Act.put, List.setIfInBounds_toArray, List.set_cons_zero, List.set_cons_succ]
      refine WS_take (i := 8) (v := ?vt8) (by simp only [List.getElem?_toArray, List.getElem?_cons_succ, List.getElem?_cons_zero]; rfl) (by decide) (by kernel_rfl) (by kernel_rfl) (by intro _ _ _ h; exact h) (Or.inl ⟨by rfl, ?hyt8⟩) hS0 ?restt8
      case hyt8 =>
        intro wx hx
        obtain ⟨s1, s2, s3⟩ := hx
        go_simp
        try with_reducible rfl
      try simp only [Act.put, List.setIfInBounds_toArray, List.set_cons_zero, List.set_cons_succ]
      refine WS_take (i := 9) (v := ?vt9) (by simp only [List.getElem?_toArray, List.getElem?_cons_succ, List.getElem?_cons_zero]; rfl) (by decide) (by kernel_rfl) (by kernel_rfl) (by intro _ _ _ h; exact h) (Or.inl ⟨by rfl, ?hyt9⟩) hS0 ?restt9
      case hyt9 =>
        intro wx hx
        obtain ⟨s1, s2, s3⟩ := hx
        go_simp
        try with_reducible rfl
      try simp only [Act.put, List.setIfInBounds_toArray, List.set_cons_zero, List.set_cons_succ]
      refine WS_take (i := 10) (v := ?vt10) (by simp only [List.getElem?_toArray, List.getElem?_cons_succ, List.getElem?_cons_zero]; rfl) (by decide) (by kernel_rfl) (by kernel_rfl) (by intro _ _ _ h; exact h) (Or.inl ⟨by rfl, ?hyt10⟩) hS0 ?restt10
      case hyt10 =>
        intro wx hx
        obtain ⟨s1, s2, s3⟩ := hx
        go_simp
        try with_reducible rfl
      try simp only [Act.put, List.setIfInBounds_toArray, List.set_cons_zero, List.set_cons_succ]
      refine WS_take (i := 11) (v := ?vt11) (by simp only [List.getElem?_toArray, List.getElem?_cons_succ, List.getElem?_cons_zero]; rfl) (by decide) (by kernel_rfl) (by kernel_rfl) (by intro _ _ _ h; exact h) (Or.inl ⟨by rfl, ?hyt11⟩) hS0 ?restt11
      case hyt11 =>
        intro wx hx
        obtain ⟨s1, s2, s3⟩ := hx
        go_simp
        try with_reducible rfl
      try simp only [Act.put, List.setIfInBounds_toArray, List.set_cons_zero, List.set_cons_succ]
      refine WS_take (i := 12) (v := ?vt12) (by simp only [List.getElem?_toArray, List.getElem?_cons_succ, List.getElem?_cons_zero]; rfl) (by decide) (by kernel_rfl) (by kernel_rfl) (by intro _ _ _ h; exact h) (Or.inl ⟨by rfl, ?hyt12⟩) hS0 ?restt12
      case hyt12 =>
        intro wx hx
        obtain ⟨s1, s2, s3⟩ := hx
        go_simp
        try with_reducible rfl
      try simp only [Act.put, List.setIfInBounds_toArray, List.set_cons_zero, List.set_cons_succ]
      refine WS_take (i := 13) (v := ?vt13) (by simp only [List.getElem?_toArray, List.getElem?_cons_succ, List.getElem?_cons_zero]; rfl) (by decide) (by kernel_rfl) (by kernel_rfl) (by intro _ _ _ h; exact h) (Or.inl ⟨by rfl, ?hyt13⟩) hS0 ?restt13
      case hyt13 =>
        intro wx hx
        obtain ⟨s1, s2, s3⟩ := hx
        go_simp
        try with_reducible rfl
      try simp only [Act.put, List.setIfInBounds_toArray, List.set_cons_zero, List.set_cons_succ]
      refine WS_take (i := 14) (v := ?vt14) (by simp only [List.getElem?_toArray, List.getElem?_cons_succ, List.getElem?_cons_zero]; rfl) (by decide) (by kernel_rfl) (by kernel_rfl) (by intro _ _ _ h; exact h) (Or.inl ⟨by rfl, ?hyt14⟩) hS0 ?restt14
      case hyt14 =>
        intro wx hx
        obtain ⟨s1, s2, s3⟩ := hx
        go_simp
        try with_reducible rfl
      try simp only [Act.put, List.setIfInBounds_toArray, List.set_cons_zero, List.set_cons_succ]
      refine WS_one (i := 15) (by simp only [List.getElem?_toArray, List.getElem?_cons_succ, List.getElem?_cons_zero]; rfl) (by decide) (by kernel_rfl) (fun K hK => (if_pos (by kernel_rfl)).mpr ?_)
      go_simp
      refine hK _ _ hS1 ?_
      clear hK K
      try simp only [Act.put, List.setIfInBounds_toArray, List.set_cons_zero, List.set_cons_succ]
      refine WS_one (i := 16) (by simp only [List.getElem?_toArray, List.getElem?_cons_succ, List.getElem?_cons_zero]; rfl) (by decide) (by kernel_rfl) (fun K hK => step_appB (by rfl) (.tmp 88) (.tmp 97) 24 (by rfl) B 65 ig _ 4 48 Tryz.underlying24 hi0 hz0 hz1 hz2 (by rfl) (by decide) (.slice A7 s.heads.length c7) s.heads.length (s.heads.flatMap hdF) (hdF ⟨lvl, hC.last, x.s, 0⟩) rfl (by simp [hdF, Value.oneCell']) (by rfl) WXg.drew.heap.size (by rfl) HDg.out (HVg.out ▸ HWg.out.ow.own 2 (by omega)) HWg.out.hB (by simp only [maxLen]; omega) (by omega) ?_)
      intro v' w' h1 h2 h3
      obtain ⟨⟨A', c', hv'⟩, hc, hf, hI⟩ := HWg.out.push (s' := { Nb.close s with ha := s.ha ++ [(hC.words : Int)], heads := s.heads ++ [⟨lvl, hC.last, x.s, 0⟩], c := hC }) 2 (by omega) rfl rfl rfl (fun j h1 h2 h3 => by rcases ten_cases h3 with rfl | rfl | rfl | rfl | rfl | rfl | rfl | rfl | rfl | rfl <;> first | rfl | omega) (by simpa [Desc.Is, desc] using h1) (by rw [HVg.out]; exact h2) (by rw [HVg.out]; exact h3)
      obtain ⟨A', n', c', rfl⟩ : ∃ A n c, v' = .slice A n c := ⟨_, _, _, hv'⟩
      clear hv'
      have hxb : w'.cell? ⟨w.heap.size, 1, none⟩ = some (vs x.s) := by
        have h9 := (HWg.out.res (w.heap.size, (.cells #[.int .i64 x.kind, vs x.s] 59 (0, 0))) (by simp)).1
        have h8 := (h2.block w.heap.size (lt_of_block h9) (fun e => HWg.out.ow.out 2 (by omega) w.heap.size (by rw [HVg.out]; exact e.symm) (Cst.mem_res _ _ (p := (w.heap.size, (.cells #[.int .i64 x.kind, vs x.s] 59 (0, 0)))) (by simp)))).trans h9
        rw [Lib.cell_of_heap h8]; rfl
      have hS2 : (fun wz : World => wz.cell? ⟨wb, 2, none⟩ = some (.slice A7 s.heads.length c7) ∧ wz.cell? ⟨wb, 22, none⟩ = some (vs hC.last) ∧ wz.cell? ⟨w.heap.size, 1, none⟩ = some (vs x.s)) w' := ⟨(hc 2).trans (by rw [← HVg.out]; rfl), hc 22, hxb⟩
      have ya := hc 2
      have yf := hf 2
      simp only [wcells, List.getElem?_cons_succ, List.getElem?_cons_zero] at ya
      have HIh := Lib.hid hI
      refine hK _ _ hS2 ?_
      clear hK K h1 h2 h3 hc hf hI hS2 hS0 hS1
      try simp only [Act.put, List.setIfInBounds_toArray, List.set_cons_zero, List.set_cons_succ]
      refine WS_done (by kernel_rfl) ?_
      simp only [List.drop_succ_cons, List.drop_zero]
      go_upto_region 13 with fail
      obtain ⟨WXk, hWX⟩ : ∃ WX, WX = w'.setCell ⟨wb, 2, none⟩ (.slice A' n' c') := ⟨_, rfl⟩
      have hI1 := HIh.out
      rw [← hWX] at hI1 ⊢
      have HIk := Lib.hid hI1
      have HDk := Lib.hid (hI1.below ((Below.refl WXk.heap.size WXk).drew))
      have hS0 : (fun wz : World => wz.cell? ⟨wb, 22, none⟩ = some (vs hC.last) ∧ wz.cell? ⟨w.heap.size, 1, none⟩ = some (vs x.s)) WXk.drew := ⟨HDk.out.cells.1.2.2.2.2.2.2, by rw [Lib.cell_of_heap (HDk.out.res (p := (w.heap.size, (.cells #[.int .i64 x.kind, vs x.s] 59 (0, 0)))) (by simp))]; rfl⟩
      have hspl := spl_len x.s
      have HSPL := Lib.hid hspl
      have hsl := hspl.1
      have HPS : Hid ((spl x.s).map vs = (spl x.s).flatMap txF) := Lib.hid (by induction spl x.s with | nil => rfl | cons a l ih => rw [List.map_cons, List.flatMap_cons, ih]; rfl)
      have HSP := Lib.hid (fun wx hb => split_any x.s wx (by omega) (HGL.out wx hb))
      generalize spl x.s = ps at *
      obtain ⟨ik, hi0, hz0, hz1, hz2⟩ := info_parts strInfo
      clear hI1 hWX hspl ya yf hxb
      refine wp_region_headS 10 (fun wz : World => wz.cell? ⟨wb, 22, none⟩ = some (vs hC.last) ∧ wz.cell? ⟨w.heap.size, 1, none⟩ = some (vs x.s)) (by kernel_rfl) (by kernel_rfl) ?_
      refine WS_take (i := 0) (v := ?vu0) (by simp only [List.getElem?_toArray, List.getElem?_cons_zero]; rfl) (by decide) (by kernel_rfl) (by kernel_rfl) (by intro _ _ _ h; exact h) (Or.inl ⟨by rfl, ?hyu0⟩) hS0 ?restu0
      case hyu0 =>
        intro wx hx
        obtain ⟨s1, s2⟩ := hx
        go_simp
        try with_reducible rfl
      try simp only [Act.put, List.setIfInBounds_toArray, List.set_cons_zero, List.set_cons_succ]
      refine WS_take (i := 1) (v := ?vu1) (by simp only [List.getElem?_toArray, List.getElem?_cons_succ, List.getElem?_cons_zero]; rfl) (by decide) (by kernel_rfl) (by kernel_rfl) (by intro _ _ _ h; exact h) (Or.inl ⟨by rfl, ?hyu1⟩) hS0 ?restu1
      case hyu1 =>
        intro wx hx
        obtain ⟨s1, s2⟩ := hx
        go_simp
        try with_reducible rfl
      try simp only [Act.put, List.setIfInBounds_toArray, List.set_cons_zero, List.set_cons_succ]
      refine WS_take (i := 2) (v := ?vu2) (by simp only [List.getElem?_toArray, List.getElem?_cons_succ, List.getElem?_cons_zero]; rfl) (by decide) (by kernel_rfl) (by kernel_rfl) (by intro _ _ _ h; exact h) (Or.inl ⟨by rfl, ?hyu2⟩) hS0 ?restu2
      case hyu2 =>
        intro wx hx
        obtain ⟨s1, s2⟩ := hx
        go_simp
        try with_reducible rfl
      try simp only [Act.put, List.setIfInBounds_toArray, List.set_cons_zero, List.set_cons_succ]
      refine WS_take (i := 3) (v := ?vu3) (by simp only [List.getElem?_toArray, List.getElem?_cons_succ, List.getElem?_cons_zero]; rfl) (by decide) (by kernel_rfl) (by kernel_rfl) (by intro _ _ _ h; exact h) (Or.inl ⟨by rfl, ?hyu3⟩) hS0 ?restu3
      case hyu3 =>
        intro wx hx
        obtain ⟨s1, s2⟩ := hx
        go_simp
        try with_reducible rfl
      try simp only [Act.put, List.setIfInBounds_toArray, List.set_cons_zero, List.set_cons_succ]
      refine WS_take (i := 4) (v := ?vu4) (by simp only [List.getElem?_toArray, List.getElem?_cons_succ, List.getElem?_cons_zero]; rfl) (by decide) (by kernel_rfl) (by kernel_rfl) (by intro _ _ _ h; exact h) (Or.inl ⟨by rfl, ?hyu4⟩) hS0 ?restu4
      case hyu4 =>
        intro wx hx
        obtain ⟨s1, s2⟩ := hx
        go_simp
        try with_reducible rfl
      try simp only [Act.put, List.setIfInBounds_toArray, List.set_cons_zero, List.set_cons_succ]
      refine WS_take (i := 6) (v := ?vu6) (by simp only [List.getElem?_toArray, List.getElem?_cons_succ, List.getElem?_cons_zero]; rfl) (by decide) (by kernel_rfl) (by kernel_rfl) (by intro _ _ _ h; exact h) (Or.inl ⟨by rfl, ?hyu6⟩) hS0 ?restu6
      case hyu6 =>
        intro wx hx
        obtain ⟨s1, s2⟩ := hx
        go_simp
        try with_reducible rfl
      try simp only [Act.put, List.setIfInBounds_toArray, List.set_cons_zero, List.set_cons_succ]
      refine WS_take (i := 7) (v := ?vu7) (by simp only [List.getElem?_toArray, List.getElem?_cons_succ, List.getElem?_cons_zero]; rfl) (by decide) (by kernel_rfl) (by kernel_rfl) (by intro _ _ _ h; exact h) (Or.inl ⟨by rfl, ?hyu7⟩) hS0 ?restu7
      case hyu7 =>
        intro wx hx
        obtain ⟨s1, s2⟩ := hx
        go_simp
        try with_reducible rfl
      try simp only [Act.put, List.setIfInBounds_toArray, List.set_cons_zero, List.set_cons_succ]
      refine WS_two (i := 5) (j := 8) (by simp only [List.getElem?_toArray, List.getElem?_cons_succ, List.getElem?_cons_zero]; rfl) (by simp only [List.getElem?_toArray, List.getElem?_cons_succ, List.getElem?_cons_zero]; rfl) (by decide) (by decide) (by kernel_rfl) (fun K hK => (if_pos (by kernel_rfl)).mpr ?_) (fun K hK => (if_pos (by kernel_rfl)).mpr ?_)
      · have hb5 : Below WXk.heap.size WXk (WXk.drew.alloc (.cells #[vs hC.last] 9)) := ((Below.refl WXk.heap.size WXk).drew).alloc (Nat.le_refl _) _
        have HI5 := Lib.hid (HIk.out.below hb5)
        have HB5 := Lib.hid hb5
        have hS5 : (fun wz : World => wz.cell? ⟨wb, 22, none⟩ = some (vs hC.last) ∧ wz.cell? ⟨w.heap.size, 1, none⟩ = some (vs x.s)) (WXk.drew.alloc (.cells #[vs hC.last] 9)) := ⟨HI5.out.cells.1.2.2.2.2.2.2, by rw [Lib.cell_of_heap (HI5.out.res (p := (w.heap.size, (.cells #[.int .i64 x.kind, vs x.s] 59 (0, 0)))) (by simp))]; rfl⟩
        have HO5 := Lib.hid (rowC_lit (f := txF) txF_len 9 [hC.last] WXk.drew (by simp [maxLen]))
        clear hb5
        go_simp
        refine hK _ _ hS5 ?_
        clear hK K
        try simp only [Act.put, List.setIfInBounds_toArray, List.set_cons_zero, List.set_cons_succ]
        refine WS_one (i := 8) (by simp only [List.getElem?_toArray, List.getElem?_cons_succ, List.getElem?_cons_zero]; rfl) (by decide) (by kernel_rfl) (fun K hK => (if_pos (by kernel_rfl)).mpr ?_)
        go_simp
        refine (HSP.out (WXk.drew.alloc (.cells #[vs hC.last] 9)) HI5.out.bel).mono ?_
        rintro e w8 ⟨rfl, rfl⟩
        dsimp only
        have hb8 : Below (WXk.drew.alloc (.cells #[vs hC.last] 9)).heap.size (WXk.drew.alloc (.cells #[vs hC.last] 9)) ((WXk.drew.alloc (.cells #[vs hC.last] 9)).alloc (.cells (ps.map vs).toArray 9)) := (Below.refl _ _).alloc (Nat.le_refl _) _
        have HI8 := Lib.hid (HI5.out.below hb8)
        have HO8 := Lib.hid (HO5.out.below hb8)
        have HB8 := Lib.hid (HB5.out.trans (hb8.mono HB5.out.size))
        have HN8 := Lib.hid (heap_alloc_new (WXk.drew.alloc (.cells #[vs hC.last] 9)) (.cells (ps.map vs).toArray 9))
        have hS8 : (fun wz : World => wz.cell? ⟨wb, 22, none⟩ = some (vs hC.last) ∧ wz.cell? ⟨w.heap.size, 1, none⟩ = some (vs x.s)) ((WXk.drew.alloc (.cells #[vs hC.last] 9)).alloc (.cells (ps.map vs).toArray 9)) := ⟨HI8.out.cells.1.2.2.2.2.2.2, by rw [Lib.cell_of_heap (HI8.out.res (p := (w.heap.size, (.cells #[.int .i64 x.kind, vs x.s] 59 (0, 0)))) (by simp))]; rfl⟩
        clear hb8
        refine hK _ _ hS8 ?_
        clear hK K
        try simp only [Act.put, List.setIfInBounds_toArray, List.set_cons_zero, List.set_cons_succ]
        refine WS_one (i := 9) (by simp only [List.getElem?_toArray, List.getElem?_cons_succ, List.getElem?_cons_zero]; rfl) (by decide) (by kernel_rfl) (fun K hK => step_appR (by rfl) (.tmp 108) (.tmp 111) 25 (by rfl) WXk.heap.size 9 ik _ 1 16 Tryz.underlying25 hi0 hz0 hz1 hz2 (by rfl) (by decide) _ 1 [vs hC.last] (by rfl) ⟨(WXk.drew.alloc (.cells #[vs hC.last] 9)).heap.size, 0, none⟩ ps.length ps.length (ps.map vs) (by rfl) (by simp) (fun j u hu => by rw [Addr.add_lit, Nat.zero_add]; exact (Lib.cell_of_heap HN8.out j).trans (by rw [List.getElem?_toArray]; exact hu)) (by simp [Value.oneCell']) (HO8.out) (HB8.out.size) (by simp only [maxLen]; omega) (by omega) ?_)
        intro v' w9 h1 h2
        have HB9 := Lib.hid ((HB8.out.grown h2 HB8.out.size (fun j hj => (HO8.out.lt j hj).1)) : Below WXk.heap.size WXk w9)
        have HI9 := Lib.hid (HIk.out.below HB9.out)
        have hS9 : (fun wz : World => wz.cell? ⟨wb, 22, none⟩ = some (vs hC.last) ∧ wz.cell? ⟨w.heap.size, 1, none⟩ = some (vs x.s)) w9 := ⟨HI9.out.cells.1.2.2.2.2.2.2, by rw [Lib.cell_of_heap (HI9.out.res (p := (w.heap.size, (.cells #[.int .i64 x.kind, vs x.s] 59 (0, 0)))) (by simp))]; rfl⟩
        have h8 := h1
        rw [Nat.add_comm, HPS.out] at h8
        have HIW := Lib.hid (HIk.out.with (vw := v') (ws := hC.last :: ps) HB9.out h8)
        obtain ⟨vA, vc, rfl⟩ := own_slice h1
        refine hK _ _ hS9 ?_
        clear hK K h1 h2 h8 hS9 hS0
        try simp only [Act.put, List.setIfInBounds_toArray, List.set_cons_zero, List.set_cons_succ]
        refine WS_done (by kernel_rfl) ?_
        simp only [List.drop_succ_cons, List.drop_zero]
        go_wp2_with fail
        refine (block_any HIW.out 1 (by simp only [Nb.close]; omega) (by have := HWO.out; simp only; omega) (by simp; omega)).mono ?_
        rintro e w10 ⟨rfl, H10⟩
        have HK10 := Lib.hid H10
        clear H10
        go_wp2_with fail
        go_end0
        exact ⟨rfl, by rw [HR.out]; exact Is.free (k := k) (R := [(w.heap.size, (.cells #[.int .i64 x.kind, vs x.s] 59 (0, 0)))]) HK10.out⟩
      · have hb8 : Below WXk.heap.size WXk (WXk.drew.alloc (.cells (ps.map vs).toArray 9)) := ((Below.refl WXk.heap.size WXk).drew).alloc (Nat.le_refl _) _
        go_simp
        refine (HSP.out WXk.drew HDk.out.bel).mono ?_
        rintro e w8 ⟨rfl, rfl⟩
        dsimp only
        have HI8 := Lib.hid (HIk.out.below hb8)
        have HB8 := Lib.hid hb8
        have HN8 := Lib.hid (heap_alloc_new WXk.drew (.cells (ps.map vs).toArray 9))
        have hS8 : (fun wz : World => wz.cell? ⟨wb, 22, none⟩ = some (vs hC.last) ∧ wz.cell? ⟨w.heap.size, 1, none⟩ = some (vs x.s)) (WXk.drew.alloc (.cells (ps.map vs).toArray 9)) := ⟨HI8.out.cells.1.2.2.2.2.2.2, by rw [Lib.cell_of_heap (HI8.out.res (p := (w.heap.size, (.cells #[.int .i64 x.kind, vs x.s] 59 (0, 0)))) (by simp))]; rfl⟩
        clear hb8
        refine hK _ _ hS8 ?_
        clear hK K
        try simp only [Act.put, List.setIfInBounds_toArray, List.set_cons_zero, List.set_cons_succ]
        refine WS_one (i := 5) (by simp only [List.getElem?_toArray, List.getElem?_cons_succ, List.getElem?_cons_zero]; rfl) (by decide) (by kernel_rfl) (fun K hK => (if_pos (by kernel_rfl)).mpr ?_)
        have hb5 : Below (WXk.drew.alloc (.cells (ps.map vs).toArray 9)).heap.size (WXk.drew.alloc (.cells (ps.map vs).toArray 9)) ((WXk.drew.alloc (.cells (ps.map vs).toArray 9)).alloc (.cells #[vs hC.last] 9)) := (Below.refl _ _).alloc (Nat.le_refl _) _
        have HI5 := Lib.hid (HI8.out.below hb5)
        have HB5 := Lib.hid (HB8.out.trans (hb5.mono HB8.out.size))
        have hS5 : (fun wz : World => wz.cell? ⟨wb, 22, none⟩ = some (vs hC.last) ∧ wz.cell? ⟨w.heap.size, 1, none⟩ = some (vs x.s)) ((WXk.drew.alloc (.cells (ps.map vs).toArray 9)).alloc (.cells #[vs hC.last] 9)) := ⟨HI5.out.cells.1.2.2.2.2.2.2, by rw [Lib.cell_of_heap (HI5.out.res (p := (w.heap.size, (.cells #[.int .i64 x.kind, vs x.s] 59 (0, 0)))) (by simp))]; rfl⟩
        have HO5 : Hid (OwnC 9 1 txF WXk.heap.size ((WXk.drew.alloc (.cells (ps.map vs).toArray 9)).alloc (.cells #[vs hC.last] 9)) (.slice (some ⟨WXk.heap.size + 1, 0, none⟩) 1 1) [hC.last]) := Lib.hid (by
          have := (rowC_lit (f := txF) txF_len 9 [hC.last] (WXk.drew.alloc (.cells (ps.map vs).toArray 9)) (by simp [maxLen])).mono (b := WXk.heap.size) (by simp)
          simpa [txF] using this)
        have HN5 := Lib.hid ((hb5.block WXk.drew.heap.size (by simp)).trans HN8.out)
        clear hb5
        go_simp
        refine hK _ _ hS5 ?_
        clear hK K
        try simp only [Act.put, List.setIfInBounds_toArray, List.set_cons_zero, List.set_cons_succ]
        refine WS_one (i := 9) (by simp only [List.getElem?_toArray, List.getElem?_cons_succ, List.getElem?_cons_zero]; rfl) (by decide) (by kernel_rfl) (fun K hK => step_appR (by rfl) (.tmp 108) (.tmp 111) 25 (by rfl) WXk.heap.size 9 ik _ 1 16 Tryz.underlying25 hi0 hz0 hz1 hz2 (by rfl) (by decide) _ 1 [vs hC.last] (by rfl) ⟨WXk.heap.size, 0, none⟩ ps.length ps.length (ps.map vs) (by rfl) (by simp) (fun j u hu => by rw [Addr.add_lit, Nat.zero_add]; exact (Lib.cell_of_heap HN5.out j).trans (by rw [List.getElem?_toArray]; exact hu)) (by simp [Value.oneCell']) (HO5.out) (HB5.out.size) (by simp only [maxLen]; omega) (by omega) ?_)
        intro v' w9 h1 h2
        have HB9 := Lib.hid ((HB5.out.grown h2 HB5.out.size (fun j hj => (HO5.out.lt j hj).1)) : Below WXk.heap.size WXk w9)
        have HI9 := Lib.hid (HIk.out.below HB9.out)
        have hS9 : (fun wz : World => wz.cell? ⟨wb, 22, none⟩ = some (vs hC.last) ∧ wz.cell? ⟨w.heap.size, 1, none⟩ = some (vs x.s)) w9 := ⟨HI9.out.cells.1.2.2.2.2.2.2, by rw [Lib.cell_of_heap (HI9.out.res (p := (w.heap.size, (.cells #[.int .i64 x.kind, vs x.s] 59 (0, 0)))) (by simp))]; rfl⟩
        have h8 := h1
        rw [Nat.add_comm, HPS.out] at h8
        have HIW := Lib.hid (HIk.out.with (vw := v') (ws := hC.last :: ps) HB9.out h8)
        obtain ⟨vA, vc, rfl⟩ := own_slice h1
        refine hK _ _ hS9 ?_
        clear hK K h1 h2 h8 hS9 hS0
        try simp only [Act.put, List.setIfInBounds_toArray, List.set_cons_zero, List.set_cons_succ]
        refine WS_done (by kernel_rfl) ?_
        simp only [List.drop_succ_cons, List.drop_zero]
        go_wp2_with fail
        refine (block_any HIW.out 1 (by simp only [Nb.close]; omega) (by have := HWO.out; simp only; omega) (by simp; omega)).mono ?_
        rintro e w10 ⟨rfl, H10⟩
        have HK10 := Lib.hid H10
        clear H10
        go_wp2_with fail
        go_end0
        exact ⟨rfl, by rw [HR.out]; exact Is.free (k := k) (R := [(w.heap.size, (.cells #[.int .i64 x.kind, vs x.s] 59 (0, 0)))]) HK10.out⟩
end
end Go.Proofs.YtjmmfihmamcopaaGreatDoor
