/- number: label, index. -/
import Derived.Test.YtjmmfihmamcopaaGreatDoorNbSay
import Derived.Test.YtjmmfihmamcopaaGreatDoorHeadS
import Derived.Test.YtjmmfihmamcopaaGreatDoorStepApp
namespace Go.Proofs.YtjmmfihmamcopaaGreatDoor
open Go.RowKit Tx Nb

/-- 'append(l, x)' at a step of a region that draws its order. -/
theorem step_appB {P : Program} {w : World} {ops : Array Oper} {o : Oper} {a : Act} {K : Act → World → Prop} {Q : Exit → Act → World → Prop} {E : Prop} (hgd : o.guard = none) (s x : Operand) (t : TypeId)
    (ho : o.op = .call { callee := .builtin .append, args := #[s, x], argTypes := #[t, t] })
    (base : Nat) (e : TypeId) (i : TypeInfo) (z : Value) (size bytes : Nat) (ht : P.underlying t = some (.slice e)) (hi : P.info? e = some i) (hz : i.zero = some z)
    (hsize : i.size = size) (hby : i.bytes = bytes) (hzs : z.cells.size = size) (hsz : 0 < size)
    (v : Value) (n : Nat) (xs : List Value) (us : List Value) (hus : us.length = size) (hone : ∀ y ∈ us, y.oneCell' = true) (hs : a.eval s = v) (g : Nat) (hx : a.eval x = .slice (some ⟨g, 0, none⟩) 1 1)
    (hg : w.heap[g]? = some (.cells us.toArray e (0, 0)))
    (hown : w.ownsRow base e size v n xs) (hb : base ≤ w.heap.size)
    (h63 : n + 1 ≤ maxLen) (hbytes : (n + 1) * bytes ≤ 140737488355328)
    (h : ∀ v' w', w'.ownsRow base e size v' (n + 1) (xs ++ us) → w.grownBy w' v.ownBlock → (∀ k, v'.ownBlock = some k → v.ownBlock = some k ∨ w.heap.size ≤ k) → K (a.put o.dst v') w') :
    if Region.wanted o (yielded ops a.tmps) = true then Oper.wp P o a w K Q else E := by
  have hw : Region.wanted o (yielded ops a.tmps) = true := by simp [Region.wanted, hgd]
  rw [if_pos hw]
  have hnews : ∀ j y, us[j]? = some y → w.cell? ((⟨g, 0, none⟩ : Addr).add j) = some y := by
    intro j y hj
    rw [Addr.add_lit]
    simp only [Nat.zero_add]
    rw [cell_of_row _ g j _ e (0, 0) hg]
    simpa using hj
  obtain ⟨v', w', hr, h2, h3, _⟩ := run_append_own (P := P) w base t o.type e i z size bytes ht hi hz hsize hby hzs hsz v n xs hown ⟨g, 0, none⟩ 1 1 us (by omega) hnews hone h63 hbytes hb
  have h4 := append_own_blk (P := P) w base t o.type e i z size bytes ht hi hz hsize hby hzs hsz v n xs hown ⟨g, 0, none⟩ 1 1 us (by omega) hnews hone h63 hbytes v' w' hr
  have key := h v' w' h2 h3 h4
  unfold Oper.wp execOp
  simp only [ho, resolve, invoke, builtin, Sem.run_bind, Sem.run_pure, Result.andThen_ok, List.map_toArray, List.map_cons, List.map_nil, hs, hx, hr]
  exact key
theorem labInfo : (Tryz.prog.info? 63).map (fun i => (i.zero, i.size, i.bytes)) = some (some (.agg #[.string ⟨#[]⟩, .string ⟨#[]⟩, .int .i64 0]), 3, 40) := by kernel_rfl
theorem intInfo : (Tryz.prog.info? 3).map (fun i => (i.zero, i.size, i.bytes)) = some (some (.int .i64 0), 1, 8) := by kernel_rfl
theorem labF_len (x : Lab) : (labF x).length = 3 := rfl
theorem note_below {B wb : Nat} {w0 w : World} {k : Cst} {s : St} (h : Is B w0 w wb k s) (e : Int) (t : Bs) (hn : s.notes.length < 1000000) (wx : World) (hb : Below w.heap.size w wx) :
    Calls Tryz.prog 51 #[.pointer (some ⟨wb, 0, none⟩), .int .i64 e, vs t] wx fun e' w' => e' = .returned (.tuple #[]) ∧ Is B w0 w' wb k (Nb.note s e t) := note_any (h.below hb) e t hn
section
variable {B wb : Nat} {w0 w : World} {k : Cst} {s : St}
set_option maxRecDepth 100000 in
set_option maxHeartbeats 8000000 in
theorem label_any (h : Is B w0 w wb k s) (T : Nat) (hT : T ≤ 900000) (hd : Bd s T) (t : Bs) :
    Calls Tryz.prog 25 #[.pointer (some ⟨wb, 0, none⟩), vs t] w fun e' w' => e' = .returned (.tuple #[]) ∧ Is B w0 w' wb k (Nb.label s t) := by
  have HS := Lib.hid h
  have HN1 := Lib.hid (note_below h 12 t (by have := hd.nt; omega))
  have HN2 := Lib.hid (note_below h 3 t (by have := hd.nt; omega))
  obtain ⟨v, hw⟩ := h
  have HW := Lib.hid hw
  have y1 : w.cell? ⟨wb, 1, none⟩ = some (v 1) := hw.cell 1
  have y2 : w.cell? ⟨wb, 2, none⟩ = some (v 2) := hw.cell 2
  have y3 : w.cell? ⟨wb, 3, none⟩ = some (v 3) := hw.cell 3
  have y4 : w.cell? ⟨wb, 4, none⟩ = some (v 4) := hw.cell 4
  have ho : OwnC 63 3 labF B w (v 1) s.labels := hw.ow.own 1 (by omega)
  have HO := Lib.hid ho
  obtain ⟨A1, c1, hv1⟩ : ∃ A c, v 1 = .slice A s.labels.length c := own_slice ho
  have hlb := hd.lb
  have hla := hd.la
  have hwo := hd.wo
  have HFD := Lib.hid (find_any (v 1) (v 2) (v 3) (v 4) s.labels t (ho.rowC labF_len) (by omega))
  have HV1 := Lib.hid hv1
  cases hf : find s.labels t with
  | some x =>
    have hfv : foundV s.labels t = .tuple #[.agg #[vs x.key, vs x.num, .int .i64 x.page], .bool true] := by unfold foundV; rw [hf]
    rw [hfv] at HFD
    have HR : Hid (Nb.label s t = Nb.note s 12 t) := Lib.hid (by unfold Nb.label; rw [hf]; rfl)
    clear hf hfv hw hd ho hv1
    go_enter Tryz.func25, Tryz.ntmps25
    go_wp2_with fail
    refine HFD.out.mono ?_
    rintro e w1 ⟨rfl, b1⟩
    have HB1 := Lib.hid b1
    clear b1 y1 y2 y3 y4
    go_wp2_with fail
    refine (HN1.out _ (HB1.out.alloc HB1.out.size _)).mono ?_
    rintro e w2 ⟨rfl, H2⟩
    have HI2 := Lib.hid H2
    clear H2
    go_wp2_with fail
    go_end0
    exact ⟨rfl, by rw [HR.out]; exact HI2.out⟩
  | none =>
    have hfv : foundV s.labels t = .tuple #[.agg #[vs [], vs [], .int .i64 0], .bool false] := by unfold foundV; rw [hf]
    rw [hfv] at HFD
    have HWB := Lib.hid (fun (w1 : World) (b : Below w.heap.size w w1) (o : Obj) => (hw.below (b.alloc b.size o) : Wk B w0 (w1.alloc o) wb k v (10 + s.blocks.length) (desc s v) s.c s.own))
    by_cases h100 : 100 ≤ s.labels.length
    · have h1i : (100 : Int) ≤ (s.labels.length : Int) := by omega
      have HR : Hid (Nb.label s t = Nb.note s 3 t) := Lib.hid (by unfold Nb.label; rw [hf, if_pos h100]; rfl)
      clear hf hfv hw hd ho h100 hv1
      go_enter Tryz.func25, Tryz.ntmps25
      go_wp2_with fail
      refine HFD.out.mono ?_
      rintro e w1 ⟨rfl, b1⟩
      have HB1 := Lib.hid b1
      have z1 : (w1.alloc (.cells #[.string (bs []), .string (bs []), .int .i64 0] 63)).cell? ⟨wb, 1, none⟩ = some (.slice A1 s.labels.length c1) := ((HWB.out w1 b1 _).cell 1).trans (by rw [← HV1.out]; rfl)
      clear b1 y1 y2 y3 y4
      go_wp2_with fail
      refine (HN2.out _ (HB1.out.alloc HB1.out.size _)).mono ?_
      rintro e w2 ⟨rfl, H2⟩
      have HI2 := Lib.hid H2
      clear H2
      go_wp2_with fail
      go_end0
      exact ⟨rfl, by rw [HR.out]; exact HI2.out⟩
    · have h1i : ¬ ((100 : Int) ≤ (s.labels.length : Int)) := by omega
      have HR : Hid (Nb.label s t = { s with labels := s.labels ++ [⟨t, s.c.last, 0⟩], la := s.la ++ [here s] }) := Lib.hid (by unfold Nb.label; rw [hf, if_neg h100]; rfl)
      clear hf hfv hw hd ho h100 hv1
      go_enter Tryz.func25, Tryz.ntmps25
      go_wp2_with fail
      refine HFD.out.mono ?_
      rintro e w1 ⟨rfl, b1⟩
      obtain ⟨W, hW⟩ : ∃ W, W = w1.alloc (.cells #[.string (bs []), .string (bs []), .int .i64 0] 63) := ⟨_, rfl⟩
      have hWk := HWB.out w1 b1 (.cells #[.string (bs []), .string (bs []), .int .i64 0] 63)
      rw [← hW] at hWk
      have z1 : W.cell? ⟨wb, 1, none⟩ = some (.slice A1 s.labels.length c1) := (hWk.cell 1).trans (by rw [← HV1.out]; rfl)
      have z22 : W.cell? ⟨wb, 22, none⟩ = some (vs s.c.last) := hWk.cell 22
      have HK := Lib.hid hWk
      have HWE := Lib.hid hW
      have HKD := Lib.hid (fun n => (hWk.below (below_of_drewN n) : Wk B w0 (W.drewN n) wb k v (10 + s.blocks.length) (desc s v) s.c s.own))
      rw [hW] at z1 z22
      clear b1 y1 y2 y3 y4 hWk hW
      go_upto_region 1 with fail
      rw [← HWE.out] at z1 z22 ⊢
      obtain ⟨i0, hi0, hz0, hz1, hz2⟩ := info_parts labInfo
      have hbd : Below W.heap.size W (W.drew.alloc (.cells #[vs t, vs s.c.last, .int .i64 0] 63)) := ((Below.refl W.heap.size W).drew).alloc (Nat.le_refl _) _
      have hW1 := HK.out.below hbd
      have HW1 := Lib.hid hW1
      have HD := Lib.hid (heap_alloc_new W.drew (.cells #[vs t, vs s.c.last, .int .i64 0] 63))
      have hS0 : (fun wz : World => wz.cell? ⟨wb, 1, none⟩ = some (.slice A1 s.labels.length c1) ∧ wz.cell? ⟨wb, 22, none⟩ = some (vs s.c.last)) W.drew := ⟨z1, z22⟩
      have hS1 : (fun wz : World => wz.cell? ⟨wb, 1, none⟩ = some (.slice A1 s.labels.length c1) ∧ wz.cell? ⟨wb, 22, none⟩ = some (vs s.c.last)) (W.drew.alloc (.cells #[vs t, vs s.c.last, .int .i64 0] 63)) := ⟨(hW1.cell 1).trans (by rw [← HV1.out]; rfl), hW1.cell 22⟩
      clear hW1 hbd
      refine wp_region_headS 15 (fun wz : World => wz.cell? ⟨wb, 1, none⟩ = some (.slice A1 s.labels.length c1) ∧ wz.cell? ⟨wb, 22, none⟩ = some (vs s.c.last)) (by kernel_rfl) (by kernel_rfl) ?_
      refine WS_take (i := 0) (v := ?va0) (by simp only [List.getElem?_toArray, List.getElem?_cons_zero]; rfl) (by decide) (by kernel_rfl) (by kernel_rfl) (by intro _ _ _ h; exact h) (Or.inl ⟨by rfl, ?hya0⟩) hS0 ?resta0
      case hya0 =>
        intro wx hx
        obtain ⟨s1, s2⟩ := hx
        go_simp
        try with_reducible rfl
      try simp only [Act.put, List.setIfInBounds_toArray, List.set_cons_zero, List.set_cons_succ]
      refine WS_take (i := 1) (v := ?va1) (by simp only [List.getElem?_toArray, List.getElem?_cons_succ, List.getElem?_cons_zero]; rfl) (by decide) (by kernel_rfl) (by kernel_rfl) (by intro _ _ _ h; exact h) (Or.inl ⟨by rfl, ?hya1⟩) hS0 ?resta1
      case hya1 =>
        intro wx hx
        obtain ⟨s1, s2⟩ := hx
        go_simp
        try with_reducible rfl
      try simp only [Act.put, List.setIfInBounds_toArray, List.set_cons_zero, List.set_cons_succ]
      refine WS_take (i := 2) (v := ?va2) (by simp only [List.getElem?_toArray, List.getElem?_cons_succ, List.getElem?_cons_zero]; rfl) (by decide) (by kernel_rfl) (by kernel_rfl) (by intro _ _ _ h; exact h) (Or.inl ⟨by rfl, ?hya2⟩) hS0 ?resta2
      case hya2 =>
        intro wx hx
        obtain ⟨s1, s2⟩ := hx
        go_simp
        try with_reducible rfl
      try simp only [Act.put, List.setIfInBounds_toArray, List.set_cons_zero, List.set_cons_succ]
      refine WS_take (i := 3) (v := ?va3) (by simp only [List.getElem?_toArray, List.getElem?_cons_succ, List.getElem?_cons_zero]; rfl) (by decide) (by kernel_rfl) (by kernel_rfl) (by intro _ _ _ h; exact h) (Or.inl ⟨by rfl, ?hya3⟩) hS0 ?resta3
      case hya3 =>
        intro wx hx
        obtain ⟨s1, s2⟩ := hx
        go_simp
        try with_reducible rfl
      try simp only [Act.put, List.setIfInBounds_toArray, List.set_cons_zero, List.set_cons_succ]
      refine WS_take (i := 4) (v := ?va4) (by simp only [List.getElem?_toArray, List.getElem?_cons_succ, List.getElem?_cons_zero]; rfl) (by decide) (by kernel_rfl) (by kernel_rfl) (by intro _ _ _ h; exact h) (Or.inl ⟨by rfl, ?hya4⟩) hS0 ?resta4
      case hya4 =>
        intro wx hx
        obtain ⟨s1, s2⟩ := hx
        go_simp
        try with_reducible rfl
      try simp only [Act.put, List.setIfInBounds_toArray, List.set_cons_zero, List.set_cons_succ]
      refine WS_take (i := 5) (v := ?va5) (by simp only [List.getElem?_toArray, List.getElem?_cons_succ, List.getElem?_cons_zero]; rfl) (by decide) (by kernel_rfl) (by kernel_rfl) (by intro _ _ _ h; exact h) (Or.inl ⟨by rfl, ?hya5⟩) hS0 ?resta5
      case hya5 =>
        intro wx hx
        obtain ⟨s1, s2⟩ := hx
        go_simp
        try with_reducible rfl
      try simp only [Act.put, List.setIfInBounds_toArray, List.set_cons_zero, List.set_cons_succ]
      refine WS_take (i := 6) (v := ?va6) (by simp only [List.getElem?_toArray, List.getElem?_cons_succ, List.getElem?_cons_zero]; rfl) (by decide) (by kernel_rfl) (by kernel_rfl) (by intro _ _ _ h; exact h) (Or.inl ⟨by rfl, ?hya6⟩) hS0 ?resta6
      case hya6 =>
        intro wx hx
        obtain ⟨s1, s2⟩ := hx
        go_simp
        try with_reducible rfl
      try simp only [Act.put, List.setIfInBounds_toArray, List.set_cons_zero, List.set_cons_succ]
      refine WS_take (i := 7) (v := ?va7) (by simp only [List.getElem?_toArray, List.getElem?_cons_succ, List.getElem?_cons_zero]; rfl) (by decide) (by kernel_rfl) (by kernel_rfl) (by intro _ _ _ h; exact h) (Or.inl ⟨by rfl, ?hya7⟩) hS0 ?resta7
      case hya7 =>
        intro wx hx
        obtain ⟨s1, s2⟩ := hx
        go_simp
        try with_reducible rfl
      try simp only [Act.put, List.setIfInBounds_toArray, List.set_cons_zero, List.set_cons_succ]
      refine WS_take (i := 8) (v := ?va8) (by simp only [List.getElem?_toArray, List.getElem?_cons_succ, List.getElem?_cons_zero]; rfl) (by decide) (by kernel_rfl) (by kernel_rfl) (by intro _ _ _ h; exact h) (Or.inl ⟨by rfl, ?hya8⟩) hS0 ?resta8
      case hya8 =>
        intro wx hx
        obtain ⟨s1, s2⟩ := hx
        go_simp
        try with_reducible rfl
      try simp only [Act.put, List.setIfInBounds_toArray, List.set_cons_zero, List.set_cons_succ]
      refine WS_take (i := 9) (v := ?va9) (by simp only [List.getElem?_toArray, List.getElem?_cons_succ, List.getElem?_cons_zero]; rfl) (by decide) (by kernel_rfl) (by kernel_rfl) (by intro _ _ _ h; exact h) (Or.inl ⟨by rfl, ?hya9⟩) hS0 ?resta9
      case hya9 =>
        intro wx hx
        obtain ⟨s1, s2⟩ := hx
        go_simp
        try with_reducible rfl
      try simp only [Act.put, List.setIfInBounds_toArray, List.set_cons_zero, List.set_cons_succ]
      refine WS_take (i := 10) (v := ?va10) (by simp only [List.getElem?_toArray, List.getElem?_cons_succ, List.getElem?_cons_zero]; rfl) (by decide) (by kernel_rfl) (by kernel_rfl) (by intro _ _ _ h; exact h) (Or.inl ⟨by rfl, ?hya10⟩) hS0 ?resta10
      case hya10 =>
        intro wx hx
        obtain ⟨s1, s2⟩ := hx
        go_simp
        try with_reducible rfl
      try simp only [Act.put, List.setIfInBounds_toArray, List.set_cons_zero, List.set_cons_succ]
      refine WS_take (i := 11) (v := ?va11) (by simp only [List.getElem?_toArray, List.getElem?_cons_succ, List.getElem?_cons_zero]; rfl) (by decide) (by kernel_rfl) (by kernel_rfl) (by intro _ _ _ h; exact h) (Or.inl ⟨by rfl, ?hya11⟩) hS0 ?resta11
      case hya11 =>
        intro wx hx
        obtain ⟨s1, s2⟩ := hx
        go_simp
        try with_reducible rfl
      try simp only [Act.put, List.setIfInBounds_toArray, List.set_cons_zero, List.set_cons_succ]
      refine WS_take (i := 12) (v := ?va12) (by simp only [List.getElem?_toArray, List.getElem?_cons_succ, List.getElem?_cons_zero]; rfl) (by decide) (by kernel_rfl) (by kernel_rfl) (by intro _ _ _ h; exact h) (Or.inl ⟨by rfl, ?hya12⟩) hS0 ?resta12
      case hya12 =>
        intro wx hx
        obtain ⟨s1, s2⟩ := hx
        go_simp
        try with_reducible rfl
      try simp only [Act.put, List.setIfInBounds_toArray, List.set_cons_zero, List.set_cons_succ]
      refine WS_one (i := 13) (by simp only [List.getElem?_toArray, List.getElem?_cons_succ, List.getElem?_cons_zero]; rfl) (by decide) (by kernel_rfl) (fun K hK => (if_pos (by kernel_rfl)).mpr ?_)
      go_simp
      refine hK _ _ hS1 ?_
      clear hK K
      try simp only [Act.put, List.setIfInBounds_toArray, List.set_cons_zero, List.set_cons_succ]
      refine WS_one (i := 14) (by simp only [List.getElem?_toArray, List.getElem?_cons_succ, List.getElem?_cons_zero]; rfl) (by decide) (by kernel_rfl) (fun K hK => step_appB (by rfl) (.tmp 22) (.tmp 29) 23 (by rfl) B 63 i0 _ 3 40 Tryz.underlying23 hi0 hz0 hz1 hz2 (by rfl) (by decide) (.slice A1 s.labels.length c1) s.labels.length (s.labels.flatMap labF) (labF ⟨t, s.c.last, 0⟩) rfl (by simp [labF, Value.oneCell']) (by rfl) W.drew.heap.size (by rfl) HD.out (HV1.out ▸ HW1.out.ow.own 1 (by omega)) HW1.out.hB (by simp only [maxLen]; omega) (by omega) ?_)
      intro v' w' h1 h2 h3
      obtain ⟨⟨A', c', hv'⟩, hc, hf, hI⟩ := HW1.out.push (s' := { s with labels := s.labels ++ [⟨t, s.c.last, 0⟩] }) 1 (by omega) rfl rfl rfl (fun j h1 h2 h3 => by rcases ten_cases h3 with rfl | rfl | rfl | rfl | rfl | rfl | rfl | rfl | rfl | rfl <;> first | rfl | omega) (by simpa [Desc.Is, desc] using h1) (by rw [HV1.out]; exact h2) (by rw [HV1.out]; exact h3)
      obtain ⟨A', n', c', rfl⟩ : ∃ A n c, v' = .slice A n c := ⟨_, _, _, hv'⟩
      clear hv'
      have hS2 : (fun wz : World => wz.cell? ⟨wb, 1, none⟩ = some (.slice A1 s.labels.length c1) ∧ wz.cell? ⟨wb, 22, none⟩ = some (vs s.c.last)) w' := ⟨(hc 1).trans (by rw [← HV1.out]; rfl), hc 22⟩
      have ya := hc 1
      have yf := hf 1
      simp only [wcells, List.getElem?_cons_succ, List.getElem?_cons_zero] at ya
      have HIa := Lib.hid hI
      refine hK _ _ hS2 ?_
      clear hK K h1 h2 h3 hc hf hI hS2 hS0 hS1
      try simp only [Act.put, List.setIfInBounds_toArray, List.set_cons_zero, List.set_cons_succ]
      refine WS_done (by kernel_rfl) ?_
      simp only [List.drop_succ_cons, List.drop_zero]
      go_upto_region 2 with fail
      obtain ⟨WX, hWX⟩ : ∃ WX, WX = w'.setCell ⟨wb, 1, none⟩ (.slice A' n' c') := ⟨_, rfl⟩
      have hI1 := HIa.out
      rw [← hWX] at hI1 ⊢
      clear ya yf
      obtain ⟨v5, hw5⟩ := hI1
      obtain ⟨A5, c5, hv5⟩ : ∃ A c, v5 5 = .slice A s.la.length c := own_slice (hw5.ow.own 5 (by omega))
      have z5 : WX.cell? ⟨wb, 5, none⟩ = some (.slice A5 s.la.length c5) := (hw5.cell 5).trans (by rw [← hv5]; rfl)
      have HV5 := Lib.hid hv5
      have HK5 := Lib.hid hw5
      have HHE := Lib.hid (here_any (s := { s with labels := s.labels ++ [⟨t, s.c.last, 0⟩] }) (⟨v5, hw5.below ((Below.refl WX.heap.size WX).drew)⟩ : Is B w0 WX.drew wb k { s with labels := s.labels ++ [⟨t, s.c.last, 0⟩] }) (by simp only; omega))
      have hbd : Below WX.heap.size WX (WX.drew.alloc (.cells #[.int .i64 (Nb.here s)] 3)) := ((Below.refl WX.heap.size WX).drew).alloc (Nat.le_refl _) _
      have hW1 := hw5.below hbd
      have HW2 := Lib.hid hW1
      have HD2 := Lib.hid (heap_alloc_new WX.drew (.cells #[.int .i64 (Nb.here s)] 3))
      have hS0 : (fun wz : World => wz.cell? ⟨wb, 5, none⟩ = some (.slice A5 s.la.length c5)) WX.drew := z5
      have hS1 : (fun wz : World => wz.cell? ⟨wb, 5, none⟩ = some (.slice A5 s.la.length c5)) (WX.drew.alloc (.cells #[.int .i64 (Nb.here s)] 3)) := (hW1.cell 5).trans (by rw [← hv5]; rfl)
      obtain ⟨i5, hi0, hz0, hz1, hz2⟩ := info_parts intInfo
      clear hW1 hbd hWX hv5 hw5 HIa HW1 HD HK
      refine wp_region_headS 10 (fun wz : World => wz.cell? ⟨wb, 5, none⟩ = some (.slice A5 s.la.length c5)) (by kernel_rfl) (by kernel_rfl) ?_
      refine WS_take (i := 0) (v := ?vb0) (by simp only [List.getElem?_toArray, List.getElem?_cons_zero]; rfl) (by decide) (by kernel_rfl) (by kernel_rfl) (by intro _ _ _ h; exact h) (Or.inl ⟨by rfl, ?hyb0⟩) hS0 ?restb0
      case hyb0 =>
        intro wx hx
        have s1 := hx
        go_simp
        try with_reducible rfl
      try simp only [Act.put, List.setIfInBounds_toArray, List.set_cons_zero, List.set_cons_succ]
      refine WS_take (i := 1) (v := ?vb1) (by simp only [List.getElem?_toArray, List.getElem?_cons_succ, List.getElem?_cons_zero]; rfl) (by decide) (by kernel_rfl) (by kernel_rfl) (by intro _ _ _ h; exact h) (Or.inl ⟨by rfl, ?hyb1⟩) hS0 ?restb1
      case hyb1 =>
        intro wx hx
        have s1 := hx
        go_simp
        try with_reducible rfl
      try simp only [Act.put, List.setIfInBounds_toArray, List.set_cons_zero, List.set_cons_succ]
      refine WS_take (i := 2) (v := ?vb2) (by simp only [List.getElem?_toArray, List.getElem?_cons_succ, List.getElem?_cons_zero]; rfl) (by decide) (by kernel_rfl) (by kernel_rfl) (by intro _ _ _ h; exact h) (Or.inl ⟨by rfl, ?hyb2⟩) hS0 ?restb2
      case hyb2 =>
        intro wx hx
        have s1 := hx
        go_simp
        try with_reducible rfl
      try simp only [Act.put, List.setIfInBounds_toArray, List.set_cons_zero, List.set_cons_succ]
      refine WS_take (i := 3) (v := ?vb3) (by simp only [List.getElem?_toArray, List.getElem?_cons_succ, List.getElem?_cons_zero]; rfl) (by decide) (by kernel_rfl) (by kernel_rfl) (by intro _ _ _ h; exact h) (Or.inl ⟨by rfl, ?hyb3⟩) hS0 ?restb3
      case hyb3 =>
        intro wx hx
        have s1 := hx
        go_simp
        try with_reducible rfl
      try simp only [Act.put, List.setIfInBounds_toArray, List.set_cons_zero, List.set_cons_succ]
      refine WS_take (i := 4) (v := ?vb4) (by simp only [List.getElem?_toArray, List.getElem?_cons_succ, List.getElem?_cons_zero]; rfl) (by decide) (by kernel_rfl) (by kernel_rfl) (by intro _ _ _ h; exact h) (Or.inl ⟨by rfl, ?hyb4⟩) hS0 ?restb4
      case hyb4 =>
        intro wx hx
        have s1 := hx
        go_simp
        try with_reducible rfl
      try simp only [Act.put, List.setIfInBounds_toArray, List.set_cons_zero, List.set_cons_succ]
      refine WS_take (i := 5) (v := ?vb5) (by simp only [List.getElem?_toArray, List.getElem?_cons_succ, List.getElem?_cons_zero]; rfl) (by decide) (by kernel_rfl) (by kernel_rfl) (by intro _ _ _ h; exact h) (Or.inl ⟨by rfl, ?hyb5⟩) hS0 ?restb5
      case hyb5 =>
        intro wx hx
        have s1 := hx
        go_simp
        try with_reducible rfl
      try simp only [Act.put, List.setIfInBounds_toArray, List.set_cons_zero, List.set_cons_succ]
      refine WS_take (i := 6) (v := ?vb6) (by simp only [List.getElem?_toArray, List.getElem?_cons_succ, List.getElem?_cons_zero]; rfl) (by decide) (by kernel_rfl) (by kernel_rfl) (by intro _ _ _ h; exact h) (Or.inl ⟨by rfl, ?hyb6⟩) hS0 ?restb6
      case hyb6 =>
        intro wx hx
        have s1 := hx
        go_simp
        try with_reducible rfl
      try simp only [Act.put, List.setIfInBounds_toArray, List.set_cons_zero, List.set_cons_succ]
      refine WS_one (i := 7) (by simp only [List.getElem?_toArray, List.getElem?_cons_succ, List.getElem?_cons_zero]; rfl) (by decide) (by kernel_rfl) (fun K hK => (if_pos (by kernel_rfl)).mpr ?_)
      go_simp
      refine HHE.out.mono ?_
      rintro e wq ⟨rfl, rfl⟩
      dsimp only
      refine hK _ _ hS0 ?_
      clear hK K
      try simp only [Act.put, List.setIfInBounds_toArray, List.set_cons_zero, List.set_cons_succ]
      refine WS_one (i := 8) (by simp only [List.getElem?_toArray, List.getElem?_cons_succ, List.getElem?_cons_zero]; rfl) (by decide) (by kernel_rfl) (fun K hK => (if_pos (by kernel_rfl)).mpr ?_)
      go_simp
      refine hK _ _ hS1 ?_
      clear hK K
      try simp only [Act.put, List.setIfInBounds_toArray, List.set_cons_zero, List.set_cons_succ]
      refine WS_one (i := 9) (by simp only [List.getElem?_toArray, List.getElem?_cons_succ, List.getElem?_cons_zero]; rfl) (by decide) (by kernel_rfl) (fun K hK => step_appB (by rfl) (.tmp 40) (.tmp 43) 37 (by rfl) B 3 i5 _ 1 8 Tryz.underlying37 hi0 hz0 hz1 hz2 (by rfl) (by decide) (.slice A5 s.la.length c5) s.la.length (s.la.flatMap inF) (inF (Nb.here s)) rfl (by simp [inF, Value.oneCell']) (by rfl) WX.drew.heap.size (by rfl) HD2.out (HV5.out ▸ HW2.out.ow.own 5 (by omega)) HW2.out.hB (by simp only [maxLen]; omega) (by omega) ?_)
      intro v' w' h1 h2 h3
      obtain ⟨⟨A', c', hv'⟩, hc, hf, hI⟩ := HW2.out.push (s' := { s with labels := s.labels ++ [⟨t, s.c.last, 0⟩], la := s.la ++ [Nb.here s] }) 5 (by omega) rfl rfl rfl (fun j h1 h2 h3 => by rcases ten_cases h3 with rfl | rfl | rfl | rfl | rfl | rfl | rfl | rfl | rfl | rfl <;> first | rfl | omega) (by simpa [Desc.Is, desc] using h1) (by rw [HV5.out]; exact h2) (by rw [HV5.out]; exact h3)
      obtain ⟨A', n', c', rfl⟩ : ∃ A n c, v' = .slice A n c := ⟨_, _, _, hv'⟩
      clear hv'
      have hS2 : (fun wz : World => wz.cell? ⟨wb, 5, none⟩ = some (.slice A5 s.la.length c5)) w' := (hc 5).trans (by rw [← HV5.out]; rfl)
      have ya := hc 5
      have yf := hf 5
      simp only [wcells, List.getElem?_cons_succ, List.getElem?_cons_zero] at ya
      have HIb := Lib.hid hI
      refine hK _ _ hS2 ?_
      clear hK K h1 h2 h3 hc hf hI hS2 hS0 hS1
      try simp only [Act.put, List.setIfInBounds_toArray, List.set_cons_zero, List.set_cons_succ]
      refine WS_done (by kernel_rfl) ?_
      simp only [List.drop_succ_cons, List.drop_zero]
      go_wp2_with fail
      go_end0
      exact ⟨rfl, by rw [HR.out]; exact HIb.out⟩
set_option maxRecDepth 100000 in
set_option maxHeartbeats 8000000 in
theorem index_any (h : Is B w0 w wb k s) (T : Nat) (hT : T ≤ 900000) (hd : Bd s T) (t : Bs) :
    Calls Tryz.prog 29 #[.pointer (some ⟨wb, 0, none⟩), vs t] w fun e' w' => e' = .returned (.tuple #[]) ∧ Is B w0 w' wb k (Nb.indexT s t) := by
  have HS := Lib.hid h
  have HN2 := Lib.hid (note_any h 3 t (by have := hd.nt; omega))
  obtain ⟨v, hw⟩ := h
  have HW := Lib.hid hw
  obtain ⟨A1, c1, hv1⟩ : ∃ A c, v 8 = .slice A s.index.length c := own_slice (hw.ow.own 8 (by omega))
  have y1 : w.cell? ⟨wb, 8, none⟩ = some (.slice A1 s.index.length c1) := (hw.cell 8).trans (by rw [← hv1]; rfl)
  have hlb := hd.ix
  have hla := hd.ia
  have hwo := hd.wo
  have HV1 := Lib.hid hv1
  by_cases h200 : 200 ≤ s.index.length
  · have h1i : (200 : Int) ≤ (s.index.length : Int) := by omega
    have HR : Hid (Nb.indexT s t = Nb.note s 3 t) := Lib.hid (by unfold Nb.indexT; rw [if_pos h200])
    clear hw hd h200 hv1
    go_enter Tryz.func29, Tryz.ntmps29
    go_wp2_with fail
    refine HN2.out.mono ?_
    rintro e w2 ⟨rfl, H2⟩
    have HI2 := Lib.hid H2
    clear H2
    go_wp2_with fail
    refine bodyPost_ret (results_none rfl _ _ _) rfl ?_
    exact ⟨rfl, by rw [HR.out]; exact HI2.out⟩
  · have h1i : ¬ ((200 : Int) ≤ (s.index.length : Int)) := by omega
    have HR : Hid (Nb.indexT s t = { s with index := s.index ++ [t], ia := s.ia ++ [Nb.here s] }) := Lib.hid (by unfold Nb.indexT; rw [if_neg h200])
    have HO : Hid (w.ownsRow B 9 1 (.slice A1 s.index.length c1) s.index.length (s.index.flatMap txF)) := Lib.hid (hv1 ▸ hw.ow.own 8 (by omega))
    obtain ⟨j0, hi0, hz0, hz1, hz2⟩ := info_parts strInfo
    clear hw hd h200 hv1
    go_enter Tryz.func29, Tryz.ntmps29
    go_wp2_with (at_builtin; refine wpList_appN (by rfl) (.tmp 19) (.tmp 21) 25 (by rfl) B 9 j0 _ 1 16 Tryz.underlying25 hi0 hz0 hz1 hz2 (by rfl) (by decide) (.slice A1 s.index.length c1) s.index.length (s.index.flatMap txF) (txF t) rfl (by simp [txF, Value.oneCell']) (by rfl) w.heap.size rfl (by rfl) HO.out HW.out.hB (by simp only [maxLen]; omega) (by omega) ?_; intro v' w' h1 h2 h3; obtain ⟨⟨A', c', hv'⟩, hc, hf, hI⟩ := HW.out.push (s' := { s with index := s.index ++ [t] }) 8 (by omega) rfl rfl rfl (fun j h1 h2 h3 => by rcases ten_cases h3 with rfl | rfl | rfl | rfl | rfl | rfl | rfl | rfl | rfl | rfl <;> first | rfl | omega) (by simpa [Desc.Is, desc] using h1) (by rw [HV1.out]; exact h2) (by rw [HV1.out]; exact h3); obtain ⟨A', n', c', rfl⟩ : ∃ A n c, v' = .slice A n c := ⟨_, _, _, hv'⟩; have ya := hc 8; have yf := hf 8; simp only [wcells, List.getElem?_cons_succ, List.getElem?_cons_zero] at ya; have HIa := Lib.hid hI; clear h1 h2 h3 hc hf hI hv'; go_upto_region 3 with fail)
    go_upto_region 3 with fail
    obtain ⟨WX, hWX⟩ : ∃ WX, WX = w'.setCell ⟨wb, 8, none⟩ (.slice A' n' c') := ⟨_, rfl⟩
    have hI1 := HIa.out
    rw [← hWX] at hI1 ⊢
    clear ya yf
    obtain ⟨v5, hw5⟩ := hI1
    obtain ⟨A5, c5, hv5⟩ : ∃ A c, v5 7 = .slice A s.ia.length c := own_slice (hw5.ow.own 7 (by omega))
    have z5 : WX.cell? ⟨wb, 7, none⟩ = some (.slice A5 s.ia.length c5) := (hw5.cell 7).trans (by rw [← hv5]; rfl)
    have HV5 := Lib.hid hv5
    have HK5 := Lib.hid hw5
    have HHE := Lib.hid (here_any (s := { s with index := s.index ++ [t] }) (⟨v5, hw5.below ((Below.refl WX.heap.size WX).drew)⟩ : Is B w0 WX.drew wb k { s with index := s.index ++ [t] }) (by simp only; omega))
    have hbd : Below WX.heap.size WX (WX.drew.alloc (.cells #[.int .i64 (Nb.here s)] 3)) := ((Below.refl WX.heap.size WX).drew).alloc (Nat.le_refl _) _
    have hW1 := hw5.below hbd
    have HW2 := Lib.hid hW1
    have HD2 := Lib.hid (heap_alloc_new WX.drew (.cells #[.int .i64 (Nb.here s)] 3))
    have hS0 : (fun wz : World => wz.cell? ⟨wb, 7, none⟩ = some (.slice A5 s.ia.length c5)) WX.drew := z5
    have hS1 : (fun wz : World => wz.cell? ⟨wb, 7, none⟩ = some (.slice A5 s.ia.length c5)) (WX.drew.alloc (.cells #[.int .i64 (Nb.here s)] 3)) := (hW1.cell 7).trans (by rw [← hv5]; rfl)
    obtain ⟨i5, hi0, hz0, hz1, hz2⟩ := info_parts intInfo
    clear hW1 hbd hWX hv5 hw5 HIa
    refine wp_region_headS 10 (fun wz : World => wz.cell? ⟨wb, 7, none⟩ = some (.slice A5 s.ia.length c5)) (by kernel_rfl) (by kernel_rfl) ?_
    refine WS_take (i := 0) (v := ?vb0) (by simp only [List.getElem?_toArray, List.getElem?_cons_zero]; rfl) (by decide) (by kernel_rfl) (by kernel_rfl) (by intro _ _ _ h; exact h) (Or.inl ⟨by rfl, ?hyb0⟩) hS0 ?restb0
    case hyb0 =>
      intro wx hx
      have s1 := hx
      go_simp
      try with_reducible rfl
    try simp only [Act.put, List.setIfInBounds_toArray, List.set_cons_zero, List.set_cons_succ]
    refine WS_take (i := 1) (v := ?vb1) (by simp only [List.getElem?_toArray, List.getElem?_cons_succ, List.getElem?_cons_zero]; rfl) (by decide) (by kernel_rfl) (by kernel_rfl) (by intro _ _ _ h; exact h) (Or.inl ⟨by rfl, ?hyb1⟩) hS0 ?restb1
    case hyb1 =>
      intro wx hx
      have s1 := hx
      go_simp
      try with_reducible rfl
    try simp only [Act.put, List.setIfInBounds_toArray, List.set_cons_zero, List.set_cons_succ]
    refine WS_take (i := 2) (v := ?vb2) (by simp only [List.getElem?_toArray, List.getElem?_cons_succ, List.getElem?_cons_zero]; rfl) (by decide) (by kernel_rfl) (by kernel_rfl) (by intro _ _ _ h; exact h) (Or.inl ⟨by rfl, ?hyb2⟩) hS0 ?restb2
    case hyb2 =>
      intro wx hx
      have s1 := hx
      go_simp
      try with_reducible rfl
    try simp only [Act.put, List.setIfInBounds_toArray, List.set_cons_zero, List.set_cons_succ]
    refine WS_take (i := 3) (v := ?vb3) (by simp only [List.getElem?_toArray, List.getElem?_cons_succ, List.getElem?_cons_zero]; rfl) (by decide) (by kernel_rfl) (by kernel_rfl) (by intro _ _ _ h; exact h) (Or.inl ⟨by rfl, ?hyb3⟩) hS0 ?restb3
    case hyb3 =>
      intro wx hx
      have s1 := hx
      go_simp
      try with_reducible rfl
    try simp only [Act.put, List.setIfInBounds_toArray, List.set_cons_zero, List.set_cons_succ]
    refine WS_take (i := 4) (v := ?vb4) (by simp only [List.getElem?_toArray, List.getElem?_cons_succ, List.getElem?_cons_zero]; rfl) (by decide) (by kernel_rfl) (by kernel_rfl) (by intro _ _ _ h; exact h) (Or.inl ⟨by rfl, ?hyb4⟩) hS0 ?restb4
    case hyb4 =>
      intro wx hx
      have s1 := hx
      go_simp
      try with_reducible rfl
    try simp only [Act.put, List.setIfInBounds_toArray, List.set_cons_zero, List.set_cons_succ]
    refine WS_take (i := 5) (v := ?vb5) (by simp only [List.getElem?_toArray, List.getElem?_cons_succ, List.getElem?_cons_zero]; rfl) (by decide) (by kernel_rfl) (by kernel_rfl) (by intro _ _ _ h; exact h) (Or.inl ⟨by rfl, ?hyb5⟩) hS0 ?restb5
    case hyb5 =>
      intro wx hx
      have s1 := hx
      go_simp
      try with_reducible rfl
    try simp only [Act.put, List.setIfInBounds_toArray, List.set_cons_zero, List.set_cons_succ]
    refine WS_take (i := 6) (v := ?vb6) (by simp only [List.getElem?_toArray, List.getElem?_cons_succ, List.getElem?_cons_zero]; rfl) (by decide) (by kernel_rfl) (by kernel_rfl) (by intro _ _ _ h; exact h) (Or.inl ⟨by rfl, ?hyb6⟩) hS0 ?restb6
    case hyb6 =>
      intro wx hx
      have s1 := hx
      go_simp
      try with_reducible rfl
    try simp only [Act.put, List.setIfInBounds_toArray, List.set_cons_zero, List.set_cons_succ]
    refine WS_one (i := 7) (by simp only [List.getElem?_toArray, List.getElem?_cons_succ, List.getElem?_cons_zero]; rfl) (by decide) (by kernel_rfl) (fun K hK => (if_pos (by kernel_rfl)).mpr ?_)
    go_simp
    refine HHE.out.mono ?_
    rintro e wq ⟨rfl, rfl⟩
    dsimp only
    refine hK _ _ hS0 ?_
    clear hK K
    try simp only [Act.put, List.setIfInBounds_toArray, List.set_cons_zero, List.set_cons_succ]
    refine WS_one (i := 8) (by simp only [List.getElem?_toArray, List.getElem?_cons_succ, List.getElem?_cons_zero]; rfl) (by decide) (by kernel_rfl) (fun K hK => (if_pos (by kernel_rfl)).mpr ?_)
    go_simp
    refine hK _ _ hS1 ?_
    clear hK K
    try simp only [Act.put, List.setIfInBounds_toArray, List.set_cons_zero, List.set_cons_succ]
    refine WS_one (i := 9) (by simp only [List.getElem?_toArray, List.getElem?_cons_succ, List.getElem?_cons_zero]; rfl) (by decide) (by kernel_rfl) (fun K hK => step_appB (by rfl) (.tmp 31) (.tmp 34) 37 (by rfl) B 3 i5 _ 1 8 Tryz.underlying37 hi0 hz0 hz1 hz2 (by rfl) (by decide) (.slice A5 s.ia.length c5) s.ia.length (s.ia.flatMap inF) (inF (Nb.here s)) rfl (by simp [inF, Value.oneCell']) (by rfl) WX.drew.heap.size (by rfl) HD2.out (HV5.out ▸ HW2.out.ow.own 7 (by omega)) HW2.out.hB (by simp only [maxLen]; omega) (by omega) ?_)
    intro v' w' h1 h2 h3
    obtain ⟨⟨A', c', hv'⟩, hc, hf, hI⟩ := HW2.out.push (s' := { s with index := s.index ++ [t], ia := s.ia ++ [Nb.here s] }) 7 (by omega) rfl rfl rfl (fun j h1 h2 h3 => by rcases ten_cases h3 with rfl | rfl | rfl | rfl | rfl | rfl | rfl | rfl | rfl | rfl <;> first | rfl | omega) (by simpa [Desc.Is, desc] using h1) (by rw [HV5.out]; exact h2) (by rw [HV5.out]; exact h3)
    obtain ⟨A', n', c', rfl⟩ : ∃ A n c, v' = .slice A n c := ⟨_, _, _, hv'⟩
    clear hv'
    have hS2 : (fun wz : World => wz.cell? ⟨wb, 7, none⟩ = some (.slice A5 s.ia.length c5)) w' := (hc 7).trans (by rw [← HV5.out]; rfl)
    have ya := hc 7
    have yf := hf 7
    simp only [wcells, List.getElem?_cons_succ, List.getElem?_cons_zero] at ya
    have HIb := Lib.hid hI
    refine hK _ _ hS2 ?_
    clear hK K h1 h2 h3 hc hf hI hS2 hS0 hS1
    try simp only [Act.put, List.setIfInBounds_toArray, List.set_cons_zero, List.set_cons_succ]
    refine WS_done (by kernel_rfl) ?_
    simp only [List.drop_succ_cons, List.drop_zero]
    go_wp2_with fail
    go_end0
    exact ⟨rfl, by rw [HR.out]; exact HIb.out⟩
end
end Go.Proofs.YtjmmfihmamcopaaGreatDoor
