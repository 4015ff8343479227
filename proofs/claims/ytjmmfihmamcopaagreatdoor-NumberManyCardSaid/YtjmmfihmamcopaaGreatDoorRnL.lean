/- stetlaw09.Refs, stetlaw11.Cites, stetlaw11.Same. -/
import Derived.Test.YtjmmfihmamcopaaGreatDoorRnK
import Derived.Test.YtjmmfihmamcopaaGreatDoorNbY
namespace Go.Proofs.YtjmmfihmamcopaaGreatDoor
open Go.RowKit Tx Nb

def E1 : Env := ⟨[], [], [], []⟩
theorem E1_ok : E1.Ok := ⟨by decide, by decide, by decide, by decide, by decide, by decide, by decide, by decide⟩
theorem rowC_none {α : Type} (n : Nat) (f : α → List Value) (w : World) (B : Nat) : RowC n f w B (.slice none 0 0) ([] : List α) := ⟨0, by simp, by decide, .inl ⟨rfl, none, rfl⟩⟩
theorem num1_any {w : World} (vl : Value) (l : List It) (hr : RowC 2 itF w w.heap.size vl l) (hl : l.length ≤ 700) (hx : ∀ x ∈ l, x.s.length ≤ 100) (hg : Gl w) :
    Calls Tryz.prog 10 #[vl, .agg #[.slice none 0 0, .slice none 0 0, .slice none 0 0, .slice none 0 0], .slice none 0 0, .slice none 0 0] w (NumPost w (run E1 l)) :=
  number_any _ _ _ _ _ _ _ l hr hl hx ⟨rowC_none _ _ _ _, rowC_none _ _ _ _, rowC_none _ _ _ _, rowC_none _ _ _ _, E1_ok, fun _wx hb => hg.below hb⟩ ⟨_, _, _, rfl⟩ ⟨_, _, _, rfl⟩
/-- The slices of an answer. -/
theorem OutIs.shapes {w : World} {v : Nat → Value} {s : St} (h : OutIs w v s) : (∃ A c, v 0 = .slice A s.blocks.length c) ∧ (∃ A c, v 1 = .slice A s.labels.length c) ∧ (∃ A c, v 2 = .slice A s.heads.length c) ∧ (∃ A c, v 3 = .slice A s.cites.length c) ∧ (∃ A c, v 4 = .slice A s.bibs.length c) ∧
    (∃ A c, v 5 = .slice A s.la.length c) ∧ (∃ A c, v 6 = .slice A s.ha.length c) ∧ (∃ A c, v 7 = .slice A s.ia.length c) ∧ (∃ A c, v 8 = .slice A s.index.length c) ∧ (∃ A c, v 9 = .slice A s.notes.length c) := by
  have key : ∀ {α : Type} {n : Nat} {f : α → List Value} {B : Nat} {x : Value} {l : List α}, RowC n f w B x l → ∃ A c, x = .slice A l.length c := fun h => by obtain ⟨A, c, e, _⟩ := h.shape; exact ⟨A, c, e⟩
  refine ⟨?_, key h.lb, key h.hd, key h.ci, key h.bb, key h.la, key h.ha, key h.ia, key h.ix, key h.nt⟩
  obtain ⟨u, h1, h2, _⟩ := h.bl
  rw [← h2]
  exact key h1
theorem r9Info : (Tryz.prog.info? 84).map (fun i => (i.zero, i.size, i.bytes)) = some (some (.agg #[.int .i64 0, .string ⟨#[]⟩]), 2, 24) := by kernel_rfl
theorem rcInfo : (Tryz.prog.info? 87).map (fun i => (i.zero, i.size, i.bytes)) = some (some (.agg #[.string ⟨#[]⟩, .string ⟨#[]⟩, .string ⟨#[]⟩]), 3, 48) := by kernel_rfl
set_option maxRecDepth 100000 in
set_option maxHeartbeats 16000000 in
theorem r9refs_any {w : World} (vl : Value) (l : List It) (hr : RowC 2 itF w w.heap.size vl l) (hl : l.length < 1000000) :
    Calls Tryz.prog 12 #[vl] w fun e w' => ∃ v, e = .returned v ∧ OwnC 84 2 itF w.heap.size w' v l ∧ Below w.heap.size w w' := by
  obtain ⟨A1, c1, rfl, _, _, hcx⟩ := hr.shape
  have HCX := Lib.hid hcx
  clear hr hcx
  go_enter Tryz.func12, Tryz.ntmps12
  go_wp2_with fail
  go_loopw [3, 4] (fun v i wr => ∃ j : Nat, j ≤ l.length ∧ i = .int .i64 j ∧ OwnC 84 2 itF w.heap.size wr v (l.take j) ∧ Below w.heap.size w wr) (fun _ i _ => l.length - (RowKit.intOf i).toNat)
  case atStart =>
    refine ⟨0, Nat.zero_le _, rfl, ?_, (Below.refl _ _).alloc (Nat.le_refl _) _⟩
    exact OwnC.made _ _ _ _ _ (Nat.le_refl _)
  case round =>
    obtain ⟨j, hj, rfl, ho, hbel⟩ := hrel
    by_cases hjt : j < l.length
    · have hi : (j : Int) < (l.length : Int) := by omega
      have hi0 : (0 : Int) ≤ (j : Int) := by omega
      obtain ⟨b, off, rfl, hbl, hc⟩ := HCX.out (by intro e; rw [e] at hjt; simp at hjt)
      have c0' : wr.cell? ⟨b, off + j * 2, none⟩ = some (.int .i64 l[j].kind) := (hbel.cell (p := ⟨b, off + j * 2, none⟩) hbl).trans (hc j hjt 0 _ rfl)
      have c1' : wr.cell? ⟨b, off + j * 2 + 1, none⟩ = some (vs l[j].s) := (hbel.cell (p := ⟨b, off + j * 2 + 1, none⟩) hbl).trans (hc j hjt 1 _ rfl)
      have HT : Hid (l.take (j + 1) = l.take j ++ [l[j]]) := Lib.hid (List.take_succ_eq_append_getElem hjt)
      have hlen : (l.take j).length < 1000000 := by simp; omega
      generalize l[j] = x at *
      obtain ⟨i0, hi0', hz0, hz1, hz2⟩ := info_parts r9Info
      have hbd : Below wr.heap.size wr (wr.drew.alloc (.cells #[.int .i64 x.kind, vs x.s] 84)) := ((Below.refl wr.heap.size wr).drew).alloc (Nat.le_refl _) _
      have HBD := Lib.hid hbd
      have HD := Lib.hid (heap_alloc_new wr.drew (.cells #[.int .i64 x.kind, vs x.s] 84))
      have hS0 : (fun wz : World => wz.cell? ⟨b, off + j * 2, none⟩ = some (.int .i64 x.kind) ∧ wz.cell? ⟨b, off + j * 2 + 1, none⟩ = some (vs x.s)) wr.drew := ⟨c0', c1'⟩
      have hS1 : (fun wz : World => wz.cell? ⟨b, off + j * 2, none⟩ = some (.int .i64 x.kind) ∧ wz.cell? ⟨b, off + j * 2 + 1, none⟩ = some (vs x.s)) (wr.drew.alloc (.cells #[.int .i64 x.kind, vs x.s] 84)) := ⟨(hbd.cell (p := ⟨b, off + j * 2, none⟩) (Nat.lt_of_lt_of_le hbl hbel.size)).trans c0', (hbd.cell (p := ⟨b, off + j * 2 + 1, none⟩) (Nat.lt_of_lt_of_le hbl hbel.size)).trans c1'⟩
      have HOW := Lib.hid (ho.below hbd)
      have HBEL := Lib.hid hbel
      have HSZ : Hid (w.heap.size ≤ (wr.drew.alloc (.cells #[.int .i64 x.kind, vs x.s] 84)).heap.size) := Lib.hid (Nat.le_trans hbel.size hbd.size)
      obtain ⟨A2, n2, c2, rfl⟩ : ∃ A n c, u3 = .slice A n c := by obtain ⟨A, c, e⟩ := own_slice ho; exact ⟨A, _, c, e⟩
      clear hc hjt hbd ho hbel
      go_upto_region 5 with fail
      refine wp_region_headS 14 (fun wz : World => wz.cell? ⟨b, off + j * 2, none⟩ = some (.int .i64 x.kind) ∧ wz.cell? ⟨b, off + j * 2 + 1, none⟩ = some (vs x.s)) (by kernel_rfl) (by kernel_rfl) ?_
      refine WS_take (i := 0) (v := ?va0) (by simp only [List.getElem?_toArray, List.getElem?_cons_zero]; rfl) (by decide) (by kernel_rfl) (by kernel_rfl) (by intro _ _ _ h; exact h) (Or.inl ⟨by rfl, ?hya0⟩) hS0 ?resta0
      case hya0 =>
        intro wx hx
        obtain ⟨s1, s2⟩ := hx
        go_simp
        try with_reducible rfl
      try simp only [Act.put, List.setIfInBounds_toArray, List.set_cons_zero, List.set_cons_succ]
      refine WS_take (i := 1) (v := ?va1) (by simp only [List.getElem?_toArray, List.getElem?_cons_succ, List.getElem?_cons_zero]; rfl) (by decide) (by kernel_rfl) (by kernel_rfl) (by intro _ _ _ h; exact h) (Or.inl ⟨by rfl, ?hya1⟩) hS0 ?resta1
      case hya1 =>
        intro wx hx
        obtain ⟨s1, s2⟩ := hx
        go_simp
        try with_reducible rfl
      try simp only [Act.put, List.setIfInBounds_toArray, List.set_cons_zero, List.set_cons_succ]
      refine WS_take (i := 2) (v := ?va2) (by simp only [List.getElem?_toArray, List.getElem?_cons_succ, List.getElem?_cons_zero]; rfl) (by decide) (by kernel_rfl) (by kernel_rfl) (by intro _ _ _ h; exact h) (Or.inl ⟨by rfl, ?hya2⟩) hS0 ?resta2
      case hya2 =>
        intro wx hx
        obtain ⟨s1, s2⟩ := hx
        go_simp
        try with_reducible rfl
      try simp only [Act.put, List.setIfInBounds_toArray, List.set_cons_zero, List.set_cons_succ]
      refine WS_take (i := 3) (v := ?va3) (by simp only [List.getElem?_toArray, List.getElem?_cons_succ, List.getElem?_cons_zero]; rfl) (by decide) (by kernel_rfl) (by kernel_rfl) (by intro _ _ _ h; exact h) (Or.inl ⟨by rfl, ?hya3⟩) hS0 ?resta3
      case hya3 =>
        intro wx hx
        obtain ⟨s1, s2⟩ := hx
        go_simp
        try with_reducible rfl
      try simp only [Act.put, List.setIfInBounds_toArray, List.set_cons_zero, List.set_cons_succ]
      refine WS_take (i := 4) (v := ?va4) (by simp only [List.getElem?_toArray, List.getElem?_cons_succ, List.getElem?_cons_zero]; rfl) (by decide) (by kernel_rfl) (by kernel_rfl) (by intro _ _ _ h; exact h) (Or.inl ⟨by rfl, ?hya4⟩) hS0 ?resta4
      case hya4 =>
        intro wx hx
        obtain ⟨s1, s2⟩ := hx
        go_simp
        try with_reducible rfl
      try simp only [Act.put, List.setIfInBounds_toArray, List.set_cons_zero, List.set_cons_succ]
      refine WS_take (i := 5) (v := ?va5) (by simp only [List.getElem?_toArray, List.getElem?_cons_succ, List.getElem?_cons_zero]; rfl) (by decide) (by kernel_rfl) (by kernel_rfl) (by intro _ _ _ h; exact h) (Or.inl ⟨by rfl, ?hya5⟩) hS0 ?resta5
      case hya5 =>
        intro wx hx
        obtain ⟨s1, s2⟩ := hx
        go_simp
        try with_reducible rfl
      try simp only [Act.put, List.setIfInBounds_toArray, List.set_cons_zero, List.set_cons_succ]
      refine WS_take (i := 6) (v := ?va6) (by simp only [List.getElem?_toArray, List.getElem?_cons_succ, List.getElem?_cons_zero]; rfl) (by decide) (by kernel_rfl) (by kernel_rfl) (by intro _ _ _ h; exact h) (Or.inl ⟨by rfl, ?hya6⟩) hS0 ?resta6
      case hya6 =>
        intro wx hx
        obtain ⟨s1, s2⟩ := hx
        go_simp
        try with_reducible rfl
      try simp only [Act.put, List.setIfInBounds_toArray, List.set_cons_zero, List.set_cons_succ]
      refine WS_take (i := 7) (v := ?va7) (by simp only [List.getElem?_toArray, List.getElem?_cons_succ, List.getElem?_cons_zero]; rfl) (by decide) (by kernel_rfl) (by kernel_rfl) (by intro _ _ _ h; exact h) (Or.inl ⟨by rfl, ?hya7⟩) hS0 ?resta7
      case hya7 =>
        intro wx hx
        obtain ⟨s1, s2⟩ := hx
        go_simp
        try with_reducible rfl
      try simp only [Act.put, List.setIfInBounds_toArray, List.set_cons_zero, List.set_cons_succ]
      refine WS_take (i := 8) (v := ?va8) (by simp only [List.getElem?_toArray, List.getElem?_cons_succ, List.getElem?_cons_zero]; rfl) (by decide) (by kernel_rfl) (by kernel_rfl) (by intro _ _ _ h; exact h) (Or.inl ⟨by rfl, ?hya8⟩) hS0 ?resta8
      case hya8 =>
        intro wx hx
        obtain ⟨s1, s2⟩ := hx
        go_simp
        try with_reducible rfl
      try simp only [Act.put, List.setIfInBounds_toArray, List.set_cons_zero, List.set_cons_succ]
      refine WS_take (i := 9) (v := ?va9) (by simp only [List.getElem?_toArray, List.getElem?_cons_succ, List.getElem?_cons_zero]; rfl) (by decide) (by kernel_rfl) (by kernel_rfl) (by intro _ _ _ h; exact h) (Or.inl ⟨by rfl, ?hya9⟩) hS0 ?resta9
      case hya9 =>
        intro wx hx
        obtain ⟨s1, s2⟩ := hx
        go_simp
        try with_reducible rfl
      try simp only [Act.put, List.setIfInBounds_toArray, List.set_cons_zero, List.set_cons_succ]
      refine WS_take (i := 10) (v := ?va10) (by simp only [List.getElem?_toArray, List.getElem?_cons_succ, List.getElem?_cons_zero]; rfl) (by decide) (by kernel_rfl) (by kernel_rfl) (by intro _ _ _ h; exact h) (Or.inl ⟨by rfl, ?hya10⟩) hS0 ?resta10
      case hya10 =>
        intro wx hx
        obtain ⟨s1, s2⟩ := hx
        go_simp
        try with_reducible rfl
      try simp only [Act.put, List.setIfInBounds_toArray, List.set_cons_zero, List.set_cons_succ]
      refine WS_take (i := 11) (v := ?va11) (by simp only [List.getElem?_toArray, List.getElem?_cons_succ, List.getElem?_cons_zero]; rfl) (by decide) (by kernel_rfl) (by kernel_rfl) (by intro _ _ _ h; exact h) (Or.inl ⟨by rfl, ?hya11⟩) hS0 ?resta11
      case hya11 =>
        intro wx hx
        obtain ⟨s1, s2⟩ := hx
        go_simp
        try with_reducible rfl
      try simp only [Act.put, List.setIfInBounds_toArray, List.set_cons_zero, List.set_cons_succ]
      refine WS_one (i := 12) (by simp only [List.getElem?_toArray, List.getElem?_cons_succ, List.getElem?_cons_zero]; rfl) (by decide) (by kernel_rfl) (fun K hK => (if_pos (by kernel_rfl)).mpr ?_)
      go_simp
      refine hK _ _ hS1 ?_
      clear hK K
      try simp only [Act.put, List.setIfInBounds_toArray, List.set_cons_zero, List.set_cons_succ]
      refine WS_one (i := 13) (by simp only [List.getElem?_toArray, List.getElem?_cons_succ, List.getElem?_cons_zero]; rfl) (by decide) (by kernel_rfl) (fun K hK => step_appB (by rfl) (.tmp 12) (.tmp 24) 50 (by rfl) w.heap.size 84 i0 _ 2 24 Tryz.underlying50 hi0' hz0 hz1 hz2 (by rfl) (by decide) (.slice A2 n2 c2) (l.take j).length ((l.take j).flatMap itF) (itF x) rfl (by simp [itF, Value.oneCell']) (by rfl) wr.drew.heap.size (by rfl) HD.out HOW.out HSZ.out (by simp only [maxLen]; omega) (by omega) ?_)
      intro v' w' h1 h2 h3
      have q1 : OwnC 84 2 itF w.heap.size w' v' (l.take j ++ [x]) := by simpa [OwnC] using h1
      have q2 : Below w.heap.size w w' := (HBEL.out.trans (HBD.out.mono HBEL.out.size)).grown h2 HSZ.out (fun k hk => (HOW.out.lt k hk).1)
      have HQ := Lib.hid (And.intro q1 q2)
      have hS2 : (fun wz : World => wz.cell? ⟨b, off + j * 2, none⟩ = some (.int .i64 x.kind) ∧ wz.cell? ⟨b, off + j * 2 + 1, none⟩ = some (vs x.s)) w' := ⟨(q2.cell (p := ⟨b, off + j * 2, none⟩) hbl).trans ((HBEL.out.cell (p := ⟨b, off + j * 2, none⟩) hbl).symm.trans c0'), (q2.cell (p := ⟨b, off + j * 2 + 1, none⟩) hbl).trans ((HBEL.out.cell (p := ⟨b, off + j * 2 + 1, none⟩) hbl).symm.trans c1')⟩
      refine hK _ _ hS2 ?_
      clear hK K h1 h2 h3 q1 q2 hS2 hS0 hS1 c0' c1'
      try simp only [Act.put, List.setIfInBounds_toArray, List.set_cons_zero, List.set_cons_succ]
      refine WS_done (by kernel_rfl) ?_
      simp only [List.drop_succ_cons, List.drop_zero]
      go_wp2_with fail
      go_roundw
      case rel => exact ⟨j + 1, by omega, by go_num, by rw [HT.out]; exact HQ.out.1, HQ.out.2⟩
      case measure => simp [RowKit.intOf]; omega
    · obtain rfl : j = l.length := by omega
      have hi : ¬ (l.length : Int) < (l.length : Int) := by omega
      rw [List.take_length] at ho
      have HO := Lib.hid ho
      have HBEL := Lib.hid hbel
      obtain ⟨A2, n2, c2, rfl⟩ : ∃ A n c, u3 = .slice A n c := by obtain ⟨A, c, e⟩ := own_slice ho; exact ⟨A, _, c, e⟩
      clear ho hbel
      go_wp2_with fail
      go_ret
      exact ⟨_, rfl, HO.out, HBEL.out⟩
set_option maxRecDepth 100000 in
set_option maxHeartbeats 16000000 in
theorem r11cites_any {w : World} (vl : Value) (l : List Ci) (hr : RowC 3 ciF w w.heap.size vl l) (hl : l.length < 1000000) :
    Calls Tryz.prog 14 #[vl] w fun e w' => ∃ v, e = .returned v ∧ OwnC 87 3 ciF w.heap.size w' v l ∧ Below w.heap.size w w' := by
  obtain ⟨A1, c1, rfl, _, _, hcx⟩ := hr.shape
  have HCX := Lib.hid hcx
  clear hr hcx
  go_enter Tryz.func14, Tryz.ntmps14
  go_wp2_with fail
  go_loopw [3, 4] (fun v i wr => ∃ j : Nat, j ≤ l.length ∧ i = .int .i64 j ∧ OwnC 87 3 ciF w.heap.size wr v (l.take j) ∧ Below w.heap.size w wr) (fun _ i _ => l.length - (RowKit.intOf i).toNat)
  case atStart =>
    refine ⟨0, Nat.zero_le _, rfl, ?_, (Below.refl _ _).alloc (Nat.le_refl _) _⟩
    exact OwnC.made _ _ _ _ _ (Nat.le_refl _)
  case round =>
    obtain ⟨j, hj, rfl, ho, hbel⟩ := hrel
    by_cases hjt : j < l.length
    · have hi : (j : Int) < (l.length : Int) := by omega
      have hi0 : (0 : Int) ≤ (j : Int) := by omega
      obtain ⟨b, off, rfl, hbl, hc⟩ := HCX.out (by intro e; rw [e] at hjt; simp at hjt)
      have c0' : wr.cell? ⟨b, off + j * 3, none⟩ = some (vs l[j].key) := (hbel.cell (p := ⟨b, off + j * 3, none⟩) hbl).trans (hc j hjt 0 _ rfl)
      have c1' : wr.cell? ⟨b, off + j * 3 + 1, none⟩ = some (vs l[j].label) := (hbel.cell (p := ⟨b, off + j * 3 + 1, none⟩) hbl).trans (hc j hjt 1 _ rfl)
      have c2' : wr.cell? ⟨b, off + j * 3 + 2, none⟩ = some (vs l[j].text) := (hbel.cell (p := ⟨b, off + j * 3 + 2, none⟩) hbl).trans (hc j hjt 2 _ rfl)
      have HT : Hid (l.take (j + 1) = l.take j ++ [l[j]]) := Lib.hid (List.take_succ_eq_append_getElem hjt)
      have hlen : (l.take j).length < 1000000 := by simp; omega
      generalize l[j] = x at *
      obtain ⟨i0, hi0', hz0, hz1, hz2⟩ := info_parts rcInfo
      have hbd : Below wr.heap.size wr (wr.drew.alloc (.cells #[vs x.key, vs x.label, vs x.text] 87)) := ((Below.refl wr.heap.size wr).drew).alloc (Nat.le_refl _) _
      have HBD := Lib.hid hbd
      have HD := Lib.hid (heap_alloc_new wr.drew (.cells #[vs x.key, vs x.label, vs x.text] 87))
      have hS0 : (fun wz : World => wz.cell? ⟨b, off + j * 3, none⟩ = some (vs x.key) ∧ wz.cell? ⟨b, off + j * 3 + 1, none⟩ = some (vs x.label) ∧ wz.cell? ⟨b, off + j * 3 + 2, none⟩ = some (vs x.text)) wr.drew := ⟨c0', c1', c2'⟩
      have hS1 : (fun wz : World => wz.cell? ⟨b, off + j * 3, none⟩ = some (vs x.key) ∧ wz.cell? ⟨b, off + j * 3 + 1, none⟩ = some (vs x.label) ∧ wz.cell? ⟨b, off + j * 3 + 2, none⟩ = some (vs x.text)) (wr.drew.alloc (.cells #[vs x.key, vs x.label, vs x.text] 87)) := ⟨(hbd.cell (p := ⟨b, off + j * 3, none⟩) (Nat.lt_of_lt_of_le hbl hbel.size)).trans c0', (hbd.cell (p := ⟨b, off + j * 3 + 1, none⟩) (Nat.lt_of_lt_of_le hbl hbel.size)).trans c1', (hbd.cell (p := ⟨b, off + j * 3 + 2, none⟩) (Nat.lt_of_lt_of_le hbl hbel.size)).trans c2'⟩
      have HOW := Lib.hid (ho.below hbd)
      have HBEL := Lib.hid hbel
      have HSZ : Hid (w.heap.size ≤ (wr.drew.alloc (.cells #[vs x.key, vs x.label, vs x.text] 87)).heap.size) := Lib.hid (Nat.le_trans hbel.size hbd.size)
      obtain ⟨A2, n2, c2, rfl⟩ : ∃ A n c, u3 = .slice A n c := by obtain ⟨A, c, e⟩ := own_slice ho; exact ⟨A, _, c, e⟩
      clear hc hjt hbd ho hbel
      go_upto_region 5 with fail
      refine wp_region_headS 19 (fun wz : World => wz.cell? ⟨b, off + j * 3, none⟩ = some (vs x.key) ∧ wz.cell? ⟨b, off + j * 3 + 1, none⟩ = some (vs x.label) ∧ wz.cell? ⟨b, off + j * 3 + 2, none⟩ = some (vs x.text)) (by kernel_rfl) (by kernel_rfl) ?_
      refine WS_take (i := 0) (v := ?va0) (by simp only [List.getElem?_toArray, List.getElem?_cons_zero]; rfl) (by decide) (by kernel_rfl) (by kernel_rfl) (by intro _ _ _ h; exact h) (Or.inl ⟨by rfl, ?hya0⟩) hS0 ?resta0
      case hya0 =>
        intro wx hx
        obtain ⟨s1, s2, s3⟩ := hx
        go_simp
        try with_reducible rfl
      try simp only [Act.put, List.setIfInBounds_toArray, List.set_cons_zero, List.set_cons_succ]
      refine WS_take (i := 1) (v := ?va1) (by simp only [List.getElem?_toArray, List.getElem?_cons_succ, List.getElem?_cons_zero]; rfl) (by decide) (by kernel_rfl) (by kernel_rfl) (by intro _ _ _ h; exact h) (Or.inl ⟨by rfl, ?hya1⟩) hS0 ?resta1
      case hya1 =>
        intro wx hx
        obtain ⟨s1, s2, s3⟩ := hx
        go_simp
        try with_reducible rfl
      try simp only [Act.put, List.setIfInBounds_toArray, List.set_cons_zero, List.set_cons_succ]
      refine WS_take (i := 2) (v := ?va2) (by simp only [List.getElem?_toArray, List.getElem?_cons_succ, List.getElem?_cons_zero]; rfl) (by decide) (by kernel_rfl) (by kernel_rfl) (by intro _ _ _ h; exact h) (Or.inl ⟨by rfl, ?hya2⟩) hS0 ?resta2
      case hya2 =>
        intro wx hx
        obtain ⟨s1, s2, s3⟩ := hx
        go_simp
        try with_reducible rfl
      try simp only [Act.put, List.setIfInBounds_toArray, List.set_cons_zero, List.set_cons_succ]
      refine WS_take (i := 3) (v := ?va3) (by simp only [List.getElem?_toArray, List.getElem?_cons_succ, List.getElem?_cons_zero]; rfl) (by decide) (by kernel_rfl) (by kernel_rfl) (by intro _ _ _ h; exact h) (Or.inl ⟨by rfl, ?hya3⟩) hS0 ?resta3
      case hya3 =>
        intro wx hx
        obtain ⟨s1, s2, s3⟩ := hx
        go_simp
        try with_reducible rfl
      try simp only [Act.put, List.setIfInBounds_toArray, List.set_cons_zero, List.set_cons_succ]
      refine WS_take (i := 4) (v := ?va4) (by simp only [List.getElem?_toArray, List.getElem?_cons_succ, List.getElem?_cons_zero]; rfl) (by decide) (by kernel_rfl) (by kernel_rfl) (by intro _ _ _ h; exact h) (Or.inl ⟨by rfl, ?hya4⟩) hS0 ?resta4
      case hya4 =>
        intro wx hx
        obtain ⟨s1, s2, s3⟩ := hx
        go_simp
        try with_reducible rfl
      try simp only [Act.put, List.setIfInBounds_toArray, List.set_cons_zero, List.set_cons_succ]
      refine WS_take (i := 5) (v := ?va5) (by simp only [List.getElem?_toArray, List.getElem?_cons_succ, List.getElem?_cons_zero]; rfl) (by decide) (by kernel_rfl) (by kernel_rfl) (by intro _ _ _ h; exact h) (Or.inl ⟨by rfl, ?hya5⟩) hS0 ?resta5
      case hya5 =>
        intro wx hx
        obtain ⟨s1, s2, s3⟩ := hx
        go_simp
        try with_reducible rfl
      try simp only [Act.put, List.setIfInBounds_toArray, List.set_cons_zero, List.set_cons_succ]
      refine WS_take (i := 6) (v := ?va6) (by simp only [List.getElem?_toArray, List.getElem?_cons_succ, List.getElem?_cons_zero]; rfl) (by decide) (by kernel_rfl) (by kernel_rfl) (by intro _ _ _ h; exact h) (Or.inl ⟨by rfl, ?hya6⟩) hS0 ?resta6
      case hya6 =>
        intro wx hx
        obtain ⟨s1, s2, s3⟩ := hx
        go_simp
        try with_reducible rfl
      try simp only [Act.put, List.setIfInBounds_toArray, List.set_cons_zero, List.set_cons_succ]
      refine WS_take (i := 7) (v := ?va7) (by simp only [List.getElem?_toArray, List.getElem?_cons_succ, List.getElem?_cons_zero]; rfl) (by decide) (by kernel_rfl) (by kernel_rfl) (by intro _ _ _ h; exact h) (Or.inl ⟨by rfl, ?hya7⟩) hS0 ?resta7
      case hya7 =>
        intro wx hx
        obtain ⟨s1, s2, s3⟩ := hx
        go_simp
        try with_reducible rfl
      try simp only [Act.put, List.setIfInBounds_toArray, List.set_cons_zero, List.set_cons_succ]
      refine WS_take (i := 8) (v := ?va8) (by simp only [List.getElem?_toArray, List.getElem?_cons_succ, List.getElem?_cons_zero]; rfl) (by decide) (by kernel_rfl) (by kernel_rfl) (by intro _ _ _ h; exact h) (Or.inl ⟨by rfl, ?hya8⟩) hS0 ?resta8
      case hya8 =>
        intro wx hx
        obtain ⟨s1, s2, s3⟩ := hx
        go_simp
        try with_reducible rfl
      try simp only [Act.put, List.setIfInBounds_toArray, List.set_cons_zero, List.set_cons_succ]
      refine WS_take (i := 9) (v := ?va9) (by simp only [List.getElem?_toArray, List.getElem?_cons_succ, List.getElem?_cons_zero]; rfl) (by decide) (by kernel_rfl) (by kernel_rfl) (by intro _ _ _ h; exact h) (Or.inl ⟨by rfl, ?hya9⟩) hS0 ?resta9
      case hya9 =>
        intro wx hx
        obtain ⟨s1, s2, s3⟩ := hx
        go_simp
        try with_reducible rfl
      try simp only [Act.put, List.setIfInBounds_toArray, List.set_cons_zero, List.set_cons_succ]
      refine WS_take (i := 10) (v := ?va10) (by simp only [List.getElem?_toArray, List.getElem?_cons_succ, List.getElem?_cons_zero]; rfl) (by decide) (by kernel_rfl) (by kernel_rfl) (by intro _ _ _ h; exact h) (Or.inl ⟨by rfl, ?hya10⟩) hS0 ?resta10
      case hya10 =>
        intro wx hx
        obtain ⟨s1, s2, s3⟩ := hx
        go_simp
        try with_reducible rfl
      try simp only [Act.put, List.setIfInBounds_toArray, List.set_cons_zero, List.set_cons_succ]
      refine WS_take (i := 11) (v := ?va11) (by simp only [List.getElem?_toArray, List.getElem?_cons_succ, List.getElem?_cons_zero]; rfl) (by decide) (by kernel_rfl) (by kernel_rfl) (by intro _ _ _ h; exact h) (Or.inl ⟨by rfl, ?hya11⟩) hS0 ?resta11
      case hya11 =>
        intro wx hx
        obtain ⟨s1, s2, s3⟩ := hx
        go_simp
        try with_reducible rfl
      try simp only [Act.put, List.setIfInBounds_toArray, List.set_cons_zero, List.set_cons_succ]
      refine WS_take (i := 12) (v := ?va12) (by simp only [List.getElem?_toArray, List.getElem?_cons_succ, List.getElem?_cons_zero]; rfl) (by decide) (by kernel_rfl) (by kernel_rfl) (by intro _ _ _ h; exact h) (Or.inl ⟨by rfl, ?hya12⟩) hS0 ?resta12
      case hya12 =>
        intro wx hx
        obtain ⟨s1, s2, s3⟩ := hx
        go_simp
        try with_reducible rfl
      try simp only [Act.put, List.setIfInBounds_toArray, List.set_cons_zero, List.set_cons_succ]
      refine WS_take (i := 13) (v := ?va13) (by simp only [List.getElem?_toArray, List.getElem?_cons_succ, List.getElem?_cons_zero]; rfl) (by decide) (by kernel_rfl) (by kernel_rfl) (by intro _ _ _ h; exact h) (Or.inl ⟨by rfl, ?hya13⟩) hS0 ?resta13
      case hya13 =>
        intro wx hx
        obtain ⟨s1, s2, s3⟩ := hx
        go_simp
        try with_reducible rfl
      try simp only [Act.put, List.setIfInBounds_toArray, List.set_cons_zero, List.set_cons_succ]
      refine WS_take (i := 14) (v := ?va14) (by simp only [List.getElem?_toArray, List.getElem?_cons_succ, List.getElem?_cons_zero]; rfl) (by decide) (by kernel_rfl) (by kernel_rfl) (by intro _ _ _ h; exact h) (Or.inl ⟨by rfl, ?hya14⟩) hS0 ?resta14
      case hya14 =>
        intro wx hx
        obtain ⟨s1, s2, s3⟩ := hx
        go_simp
        try with_reducible rfl
      try simp only [Act.put, List.setIfInBounds_toArray, List.set_cons_zero, List.set_cons_succ]
      refine WS_take (i := 15) (v := ?va15) (by simp only [List.getElem?_toArray, List.getElem?_cons_succ, List.getElem?_cons_zero]; rfl) (by decide) (by kernel_rfl) (by kernel_rfl) (by intro _ _ _ h; exact h) (Or.inl ⟨by rfl, ?hya15⟩) hS0 ?resta15
      case hya15 =>
        intro wx hx
        obtain ⟨s1, s2, s3⟩ := hx
        go_simp
        try with_reducible rfl
      try simp only [Act.put, List.setIfInBounds_toArray, List.set_cons_zero, List.set_cons_succ]
      refine WS_take (i := 16) (v := ?va16) (by simp only [List.getElem?_toArray, List.getElem?_cons_succ, List.getElem?_cons_zero]; rfl) (by decide) (by kernel_rfl) (by kernel_rfl) (by intro _ _ _ h; exact h) (Or.inl ⟨by rfl, ?hya16⟩) hS0 ?resta16
      case hya16 =>
        intro wx hx
        obtain ⟨s1, s2, s3⟩ := hx
        go_simp
        try with_reducible rfl
      try simp only [Act.put, List.setIfInBounds_toArray, List.set_cons_zero, List.set_cons_succ]
      refine WS_one (i := 17) (by simp only [List.getElem?_toArray, List.getElem?_cons_succ, List.getElem?_cons_zero]; rfl) (by decide) (by kernel_rfl) (fun K hK => (if_pos (by kernel_rfl)).mpr ?_)
      go_simp
      refine hK _ _ hS1 ?_
      clear hK K
      try simp only [Act.put, List.setIfInBounds_toArray, List.set_cons_zero, List.set_cons_succ]
      refine WS_one (i := 18) (by simp only [List.getElem?_toArray, List.getElem?_cons_succ, List.getElem?_cons_zero]; rfl) (by decide) (by kernel_rfl) (fun K hK => step_appB (by rfl) (.tmp 12) (.tmp 29) 53 (by rfl) w.heap.size 87 i0 _ 3 48 Tryz.underlying53 hi0' hz0 hz1 hz2 (by rfl) (by decide) (.slice A2 n2 c2) (l.take j).length ((l.take j).flatMap ciF) (ciF x) rfl (by simp [ciF, Value.oneCell']) (by rfl) wr.drew.heap.size (by rfl) HD.out HOW.out HSZ.out (by simp only [maxLen]; omega) (by omega) ?_)
      intro v' w' h1 h2 h3
      have q1 : OwnC 87 3 ciF w.heap.size w' v' (l.take j ++ [x]) := by simpa [OwnC] using h1
      have q2 : Below w.heap.size w w' := (HBEL.out.trans (HBD.out.mono HBEL.out.size)).grown h2 HSZ.out (fun k hk => (HOW.out.lt k hk).1)
      have HQ := Lib.hid (And.intro q1 q2)
      have hS2 : (fun wz : World => wz.cell? ⟨b, off + j * 3, none⟩ = some (vs x.key) ∧ wz.cell? ⟨b, off + j * 3 + 1, none⟩ = some (vs x.label) ∧ wz.cell? ⟨b, off + j * 3 + 2, none⟩ = some (vs x.text)) w' := ⟨(q2.cell (p := ⟨b, off + j * 3, none⟩) hbl).trans ((HBEL.out.cell (p := ⟨b, off + j * 3, none⟩) hbl).symm.trans c0'), (q2.cell (p := ⟨b, off + j * 3 + 1, none⟩) hbl).trans ((HBEL.out.cell (p := ⟨b, off + j * 3 + 1, none⟩) hbl).symm.trans c1'), (q2.cell (p := ⟨b, off + j * 3 + 2, none⟩) hbl).trans ((HBEL.out.cell (p := ⟨b, off + j * 3 + 2, none⟩) hbl).symm.trans c2')⟩
      refine hK _ _ hS2 ?_
      clear hK K h1 h2 h3 q1 q2 hS2 hS0 hS1 c0' c1' c2'
      try simp only [Act.put, List.setIfInBounds_toArray, List.set_cons_zero, List.set_cons_succ]
      refine WS_done (by kernel_rfl) ?_
      simp only [List.drop_succ_cons, List.drop_zero]
      go_wp2_with fail
      go_roundw
      case rel => exact ⟨j + 1, by omega, by go_num, by rw [HT.out]; exact HQ.out.1, HQ.out.2⟩
      case measure => simp [RowKit.intOf]; omega
    · obtain rfl : j = l.length := by omega
      have hi : ¬ (l.length : Int) < (l.length : Int) := by omega
      rw [List.take_length] at ho
      have HO := Lib.hid ho
      have HBEL := Lib.hid hbel
      obtain ⟨A2, n2, c2, rfl⟩ : ∃ A n c, u3 = .slice A n c := by obtain ⟨A, c, e⟩ := own_slice ho; exact ⟨A, _, c, e⟩
      clear ho hbel
      go_wp2_with fail
      go_ret
      exact ⟨_, rfl, HO.out, HBEL.out⟩
theorem row_out {B : Nat} {w : World} {v : Nat → Value} {s : St} (h : Ow B w [] v (12 + s.blocks.length) (rdesc s v)) : OutIs w v s := by
  refine ⟨?_, (show OwnC 85 3 labF B w (v 1) s.labels from h.own 1 (by omega)).rowC labF_len, (show OwnC 86 4 hdF B w (v 2) s.heads from h.own 2 (by omega)).rowC hdF_len,
    (show OwnC 9 1 txF B w (v 3) s.cites from h.own 3 (by omega)).rowC txF_len, (show OwnC 9 1 txF B w (v 4) s.bibs from h.own 4 (by omega)).rowC txF_len,
    (show OwnC 3 1 inF B w (v 5) s.la from h.own 5 (by omega)).rowC (fun _ => rfl), (show OwnC 3 1 inF B w (v 6) s.ha from h.own 6 (by omega)).rowC (fun _ => rfl), (show OwnC 3 1 inF B w (v 7) s.ia from h.own 7 (by omega)).rowC (fun _ => rfl),
    (show OwnC 9 1 txF B w (v 8) s.index from h.own 8 (by omega)).rowC txF_len, (show OwnC 92 2 ntF B w (v 9) s.notes from h.own 9 (by omega)).rowC (fun _ => rfl)⟩
  have h0 : w.ownsRow B 89 2 (v 0) s.blocks.length (blF v 12 s.blocks) := h.own 0 (by omega)
  rw [bl_cells] at h0
  refine ⟨(List.range s.blocks.length).map fun j => ((s.blocks[j]?.getD (0, [])).1, v (12 + j)), ?_, by simp, fun j h1 h2 => ?_⟩
  · have h1 : OwnC 89 2 bkF B w (v 0) ((List.range s.blocks.length).map fun j => ((s.blocks[j]?.getD (0, [])).1, v (12 + j))) := by
      unfold OwnC
      rw [List.length_map, List.length_range]
      exact h0
    exact h1.rowC bkF_len
  · have h3 : w.ownsRow B 9 1 (v (12 + j)) ((s.blocks[j]?.getD (0, [])).2).length (((s.blocks[j]?.getD (0, [])).2).flatMap txF) := by
      have := h.own (12 + j) (by omega)
      rw [show 12 + j = j + 12 by omega] at this ⊢
      exact this
    rw [List.getElem?_eq_getElem h2, Option.getD_some] at h3
    simp only [List.getElem_map, List.getElem_range, List.getElem?_eq_getElem h2, Option.getD_some]
    exact ⟨trivial, (show OwnC 9 1 txF B w (v (12 + j)) s.blocks[j].2 from h3).rowC txF_len⟩
set_option maxRecDepth 100000 in
set_option maxHeartbeats 32000000 in
theorem same11_any {w : World} {va vb : Nat → Value} {s : St} (ha : OutIs w va s) (hb : OutIs w vb s) (T : Nat) (hT : T < 1000000) (hd : Bd s T) :
    Calls Tryz.prog 9 #[.agg #[va 0, va 1, va 2, va 3, va 4, va 5, va 6, va 7, va 8, va 9], .agg #[vb 0, vb 1, vb 2, vb 3, vb 4, vb 5, vb 6, vb 7, vb 8, vb 9]] w fun e w' => e = .returned (.bool true) ∧ Below w.heap.size w w' := by
  obtain ⟨⟨X0, p0, ea0⟩, ⟨X1, p1, ea1⟩, ⟨X2, p2, ea2⟩, ⟨X3, p3, ea3⟩, ⟨X4, p4, ea4⟩, ⟨X5, p5, ea5⟩, ⟨X6, p6, ea6⟩, ⟨X7, p7, ea7⟩, ⟨X8, p8, ea8⟩, ⟨X9, p9, ea9⟩⟩ := ha.shapes
  obtain ⟨⟨Y0, q0, eb0⟩, ⟨Y1, q1, eb1⟩, ⟨Y2, q2, eb2⟩, ⟨Y3, q3, eb3⟩, ⟨Y4, q4, eb4⟩, ⟨Y5, q5, eb5⟩, ⟨Y6, q6, eb6⟩, ⟨Y7, q7, eb7⟩, ⟨Y8, q8, eb8⟩, ⟨Y9, q9, eb9⟩⟩ := hb.shapes
  have ra0 := ha.bl
  rw [ea0] at ra0
  have rb0 := hb.bl
  rw [eb0] at rb0
  have ra1 := ha.lb
  rw [ea1] at ra1
  have rb1 := hb.lb
  rw [eb1] at rb1
  have ra2 := ha.hd
  rw [ea2] at ra2
  have rb2 := hb.hd
  rw [eb2] at rb2
  have ra3 := ha.ci
  rw [ea3] at ra3
  have rb3 := hb.ci
  rw [eb3] at rb3
  have ra4 := ha.bb
  rw [ea4] at ra4
  have rb4 := hb.bb
  rw [eb4] at rb4
  have ra5 := ha.la
  rw [ea5] at ra5
  have rb5 := hb.la
  rw [eb5] at rb5
  have ra6 := ha.ha
  rw [ea6] at ra6
  have rb6 := hb.ha
  rw [eb6] at rb6
  have ra7 := ha.ia
  rw [ea7] at ra7
  have rb7 := hb.ia
  rw [eb7] at rb7
  have ra8 := ha.ix
  rw [ea8] at ra8
  have rb8 := hb.ix
  rw [eb8] at rb8
  have ra9 := ha.nt
  rw [ea9] at ra9
  have rb9 := hb.nt
  rw [eb9] at rb9
  rw [ea0, ea1, ea2, ea3, ea4, ea5, ea6, ea7, ea8, ea9, eb0, eb1, eb2, eb3, eb4, eb5, eb6, eb7, eb8, eb9]
  have n0 := hd.bl
  have n1 := hd.lb
  have n2 := hd.hd
  have n3 := hd.ci
  have n4 := hd.bb
  have n8 := hd.ix
  have n9 := hd.nt
  have nw := hd.wd
  clear ha hb hd ea0 eb0 ea1 eb1 ea2 eb2 ea3 eb3 ea4 eb4 ea5 eb5 ea6 eb6 ea7 eb7 ea8 eb8 ea9 eb9
  have C4 := Lib.hid (fun wx (h : Below w.heap.size w wx) => (blocks_any (.slice X0 s.blocks.length p0) (.slice Y0 s.blocks.length q0) s.blocks (ra0.step h) (rb0.step h) (by omega) (fun x hx => by have := (nw x hx).1; omega)).mono (fun e w' ⟨he, n, hw⟩ => (⟨he, by rw [hw]; exact below_of_drewN n⟩ : e = Ending.returned (.bool true) ∧ Below wx.heap.size wx w')))
  have C8 := Lib.hid (fun wx (h : Below w.heap.size w wx) => ref_any (.slice X1 s.labels.length p1) (.slice X2 s.heads.length p2) (.slice X3 s.cites.length p3) (.slice X4 s.bibs.length p4) s.labels s.heads (ra1.step h) (ra2.step h) (by omega) (by omega) ⟨X3, _, p3, rfl⟩ ⟨X4, _, p4, rfl⟩)
  have C11 := Lib.hid (fun wx z1 z2 (h : Below w.heap.size w wx) (o1 : RowC 3 labF wx wx.heap.size z1 s.labels) (o2 : RowC 4 hdF wx wx.heap.size z2 s.heads) => same_any z1 z2 (.slice X3 s.cites.length p3) (.slice X4 s.bibs.length p4) (.slice Y1 s.labels.length q1) (.slice Y2 s.heads.length q2) (.slice Y3 s.cites.length q3) (.slice Y4 s.bibs.length q4) s.labels s.heads s.cites s.bibs o1 o2 (ra3.step h) (ra4.step h) (rb1.step h) (rb2.step h) (rb3.step h) (rb4.step h) (by omega) (by omega) (by omega) (by omega))
  have C18 := Lib.hid (fun wx (h : Below w.heap.size w wx) => rInts_below s.la (.slice X5 s.la.length p5) (.slice Y5 s.la.length q5) _ _ wx (ints_row (ra5.step h)) (ints_row (rb5.step h)))
  have C25 := Lib.hid (fun wx (h : Below w.heap.size w wx) => rInts_below s.ha (.slice X6 s.ha.length p6) (.slice Y6 s.ha.length q6) _ _ wx (ints_row (ra6.step h)) (ints_row (rb6.step h)))
  have C32 := Lib.hid (fun wx (h : Below w.heap.size w wx) => rInts_below s.ia (.slice X7 s.ia.length p7) (.slice Y7 s.ia.length q7) _ _ wx (ints_row (ra7.step h)) (ints_row (rb7.step h)))
  have C39 := Lib.hid (fun wx (h : Below w.heap.size w wx) => (words2_any (.slice X8 s.index.length p8) (.slice Y8 s.index.length q8) s.index s.index wx (rows_bs (ra8.step h)) (rows_bs (rb8.step h)) (by omega) (by omega)).mono (fun e w' ⟨he, n, hw⟩ => (⟨by rw [he]; simp, by rw [hw]; exact below_of_drewN n⟩ : e = Ending.returned (.bool true) ∧ Below wx.heap.size wx w')))
  have C46 := Lib.hid (fun wx (h : Below w.heap.size w wx) => (rnotes_any (q := true) (.slice X9 s.notes.length p9) (.slice Y9 s.notes.length q9) s.notes s.notes (by simp) wx (ra9.step h) (rb9.step h) (by omega) (by omega)).mono (fun e w' ⟨he, n, hw⟩ => (⟨he, by rw [hw]; exact below_of_drewN n⟩ : e = Ending.returned (.bool true) ∧ Below wx.heap.size wx w')))
  clear ra0 rb0 ra1 rb1 ra2 rb2 ra3 rb3 ra4 rb4 ra5 rb5 ra6 rb6 ra7 rb7 ra8 rb8 ra9 rb9 n0 n1 n2 n3 n4 n8 n9 nw
  generalize s.blocks.length = x0 at *
  generalize s.labels.length = x1 at *
  generalize s.heads.length = x2 at *
  generalize s.cites.length = x3 at *
  generalize s.bibs.length = x4 at *
  generalize s.la.length = x5 at *
  generalize s.ha.length = x6 at *
  generalize s.ia.length = x7 at *
  generalize s.index.length = x8 at *
  generalize s.notes.length = x9 at *
  obtain ⟨W, hW⟩ : ∃ W, W = (w.alloc (.cells #[.slice X0 x0 p0, .slice X1 x1 p1, .slice X2 x2 p2, .slice X3 x3 p3, .slice X4 x4 p4, .slice X5 x5 p5, .slice X6 x6 p6, .slice X7 x7 p7, .slice X8 x8 p8, .slice X9 x9 p9] 40)).alloc (.cells #[.slice Y0 x0 q0, .slice Y1 x1 q1, .slice Y2 x2 q2, .slice Y3 x3 q3, .slice Y4 x4 q4, .slice Y5 x5 q5, .slice Y6 x6 q6, .slice Y7 x7 q7, .slice Y8 x8 q8, .slice Y9 x9 q9] 48) := ⟨_, rfl⟩
  have g0 : W.heap[w.heap.size]? = some (.cells #[.slice X0 x0 p0, .slice X1 x1 p1, .slice X2 x2 p2, .slice X3 x3 p3, .slice X4 x4 p4, .slice X5 x5 p5, .slice X6 x6 p6, .slice X7 x7 p7, .slice X8 x8 p8, .slice X9 x9 p9] 40 (0, 0)) := by
    rw [hW, Below.heap_alloc _ _ _ (by simp)]
    exact heap_alloc_new w _
  have g1 : W.heap[w.heap.size + 1]? = some (.cells #[.slice Y0 x0 q0, .slice Y1 x1 q1, .slice Y2 x2 q2, .slice Y3 x3 q3, .slice Y4 x4 q4, .slice Y5 x5 q5, .slice Y6 x6 q6, .slice Y7 x7 q7, .slice Y8 x8 q8, .slice Y9 x9 q9] 48 (0, 0)) := by
    rw [hW]
    have := heap_alloc_new (w.alloc (.cells #[.slice X0 x0 p0, .slice X1 x1 p1, .slice X2 x2 p2, .slice X3 x3 p3, .slice X4 x4 p4, .slice X5 x5 p5, .slice X6 x6 p6, .slice X7 x7 p7, .slice X8 x8 p8, .slice X9 x9 p9] 40)) (.cells #[.slice Y0 x0 q0, .slice Y1 x1 q1, .slice Y2 x2 q2, .slice Y3 x3 q3, .slice Y4 x4 q4, .slice Y5 x5 q5, .slice Y6 x6 q6, .slice Y7 x7 q7, .slice Y8 x8 q8, .slice Y9 x9 q9] 48)
    simpa using this
  have hbw : Below w.heap.size w W := by rw [hW]; exact ((Below.refl _ _).alloc (Nat.le_refl _) _).alloc (by simp) _
  have HS := Lib.hid (fun wx (h : Below W.heap.size W wx) => (by
    have h0 := (h.block _ (lt_of_block g0)).trans g0
    have h1 := (h.block _ (lt_of_block g1)).trans g1
    exact ⟨by rw [Lib.cell_of_heap h0]; rfl, by rw [Lib.cell_of_heap h0]; rfl, by rw [Lib.cell_of_heap h0]; rfl, by rw [Lib.cell_of_heap h0]; rfl, by rw [Lib.cell_of_heap h0]; rfl, by rw [Lib.cell_of_heap h0]; rfl, by rw [Lib.cell_of_heap h0]; rfl, by rw [Lib.cell_of_heap h0]; rfl, by rw [Lib.cell_of_heap h0]; rfl, by rw [Lib.cell_of_heap h0]; rfl, by rw [Lib.cell_of_heap h1]; rfl, by rw [Lib.cell_of_heap h1]; rfl, by rw [Lib.cell_of_heap h1]; rfl, by rw [Lib.cell_of_heap h1]; rfl, by rw [Lib.cell_of_heap h1]; rfl, by rw [Lib.cell_of_heap h1]; rfl, by rw [Lib.cell_of_heap h1]; rfl, by rw [Lib.cell_of_heap h1]; rfl, by rw [Lib.cell_of_heap h1]; rfl, by rw [Lib.cell_of_heap h1]; rfl⟩ : (fun wz : World => wz.cell? ⟨w.heap.size, 0, none⟩ = some (.slice X0 x0 p0) ∧ wz.cell? ⟨w.heap.size, 1, none⟩ = some (.slice X1 x1 p1) ∧ wz.cell? ⟨w.heap.size, 2, none⟩ = some (.slice X2 x2 p2) ∧ wz.cell? ⟨w.heap.size, 3, none⟩ = some (.slice X3 x3 p3) ∧ wz.cell? ⟨w.heap.size, 4, none⟩ = some (.slice X4 x4 p4) ∧ wz.cell? ⟨w.heap.size, 5, none⟩ = some (.slice X5 x5 p5) ∧ wz.cell? ⟨w.heap.size, 6, none⟩ = some (.slice X6 x6 p6) ∧ wz.cell? ⟨w.heap.size, 7, none⟩ = some (.slice X7 x7 p7) ∧ wz.cell? ⟨w.heap.size, 8, none⟩ = some (.slice X8 x8 p8) ∧ wz.cell? ⟨w.heap.size, 9, none⟩ = some (.slice X9 x9 p9) ∧ wz.cell? ⟨w.heap.size + 1, 0, none⟩ = some (.slice Y0 x0 q0) ∧ wz.cell? ⟨w.heap.size + 1, 1, none⟩ = some (.slice Y1 x1 q1) ∧ wz.cell? ⟨w.heap.size + 1, 2, none⟩ = some (.slice Y2 x2 q2) ∧ wz.cell? ⟨w.heap.size + 1, 3, none⟩ = some (.slice Y3 x3 q3) ∧ wz.cell? ⟨w.heap.size + 1, 4, none⟩ = some (.slice Y4 x4 q4) ∧ wz.cell? ⟨w.heap.size + 1, 5, none⟩ = some (.slice Y5 x5 q5) ∧ wz.cell? ⟨w.heap.size + 1, 6, none⟩ = some (.slice Y6 x6 q6) ∧ wz.cell? ⟨w.heap.size + 1, 7, none⟩ = some (.slice Y7 x7 q7) ∧ wz.cell? ⟨w.heap.size + 1, 8, none⟩ = some (.slice Y8 x8 q8) ∧ wz.cell? ⟨w.heap.size + 1, 9, none⟩ = some (.slice Y9 x9 q9)) wx))
  have HBW := Lib.hid hbw
  have HW := Lib.hid hW
  clear g0 g1 hbw hW
  go_enter Tryz.func9, Tryz.ntmps9
  go_upto_region 1 with fail
  rw [← HW.out]
  have b0 : Below W.heap.size W W.drew := (Below.refl _ _).drew
  have hS0 := HS.out _ b0
  refine wp_region_headS 46 (fun wz : World => wz.cell? ⟨w.heap.size, 0, none⟩ = some (.slice X0 x0 p0) ∧ wz.cell? ⟨w.heap.size, 1, none⟩ = some (.slice X1 x1 p1) ∧ wz.cell? ⟨w.heap.size, 2, none⟩ = some (.slice X2 x2 p2) ∧ wz.cell? ⟨w.heap.size, 3, none⟩ = some (.slice X3 x3 p3) ∧ wz.cell? ⟨w.heap.size, 4, none⟩ = some (.slice X4 x4 p4) ∧ wz.cell? ⟨w.heap.size, 5, none⟩ = some (.slice X5 x5 p5) ∧ wz.cell? ⟨w.heap.size, 6, none⟩ = some (.slice X6 x6 p6) ∧ wz.cell? ⟨w.heap.size, 7, none⟩ = some (.slice X7 x7 p7) ∧ wz.cell? ⟨w.heap.size, 8, none⟩ = some (.slice X8 x8 p8) ∧ wz.cell? ⟨w.heap.size, 9, none⟩ = some (.slice X9 x9 p9) ∧ wz.cell? ⟨w.heap.size + 1, 0, none⟩ = some (.slice Y0 x0 q0) ∧ wz.cell? ⟨w.heap.size + 1, 1, none⟩ = some (.slice Y1 x1 q1) ∧ wz.cell? ⟨w.heap.size + 1, 2, none⟩ = some (.slice Y2 x2 q2) ∧ wz.cell? ⟨w.heap.size + 1, 3, none⟩ = some (.slice Y3 x3 q3) ∧ wz.cell? ⟨w.heap.size + 1, 4, none⟩ = some (.slice Y4 x4 q4) ∧ wz.cell? ⟨w.heap.size + 1, 5, none⟩ = some (.slice Y5 x5 q5) ∧ wz.cell? ⟨w.heap.size + 1, 6, none⟩ = some (.slice Y6 x6 q6) ∧ wz.cell? ⟨w.heap.size + 1, 7, none⟩ = some (.slice Y7 x7 q7) ∧ wz.cell? ⟨w.heap.size + 1, 8, none⟩ = some (.slice Y8 x8 q8) ∧ wz.cell? ⟨w.heap.size + 1, 9, none⟩ = some (.slice Y9 x9 q9)) (by kernel_rfl) (by kernel_rfl) ?_
  refine WS_take (i := 0) (v := ?vz0) (by simp only [List.getElem?_toArray, List.getElem?_cons_zero]; rfl) (by decide) (by kernel_rfl) (by kernel_rfl) (by intro _ _ _ h; exact h) (Or.inl ⟨by rfl, ?hyz0⟩) hS0 ?restz0
  case hyz0 =>
    intro wx hx
    obtain ⟨s1, s2, s3, s4, s5, s6, s7, s8, s9, s10, s11, s12, s13, s14, s15, s16, s17, s18, s19, s20⟩ := hx
    go_simp
    try with_reducible rfl
  try simp only [Act.put, List.setIfInBounds_toArray, List.set_cons_zero, List.set_cons_succ]
  refine WS_take (i := 1) (v := ?vz1) (by simp only [List.getElem?_toArray, List.getElem?_cons_succ, List.getElem?_cons_zero]; rfl) (by decide) (by kernel_rfl) (by kernel_rfl) (by intro _ _ _ h; exact h) (Or.inl ⟨by rfl, ?hyz1⟩) hS0 ?restz1
  case hyz1 =>
    intro wx hx
    obtain ⟨s1, s2, s3, s4, s5, s6, s7, s8, s9, s10, s11, s12, s13, s14, s15, s16, s17, s18, s19, s20⟩ := hx
    go_simp
    try with_reducible rfl
  try simp only [Act.put, List.setIfInBounds_toArray, List.set_cons_zero, List.set_cons_succ]
  refine WS_take (i := 2) (v := ?vz2) (by simp only [List.getElem?_toArray, List.getElem?_cons_succ, List.getElem?_cons_zero]; rfl) (by decide) (by kernel_rfl) (by kernel_rfl) (by intro _ _ _ h; exact h) (Or.inl ⟨by rfl, ?hyz2⟩) hS0 ?restz2
  case hyz2 =>
    intro wx hx
    obtain ⟨s1, s2, s3, s4, s5, s6, s7, s8, s9, s10, s11, s12, s13, s14, s15, s16, s17, s18, s19, s20⟩ := hx
    go_simp
    try with_reducible rfl
  try simp only [Act.put, List.setIfInBounds_toArray, List.set_cons_zero, List.set_cons_succ]
  refine WS_take (i := 3) (v := ?vz3) (by simp only [List.getElem?_toArray, List.getElem?_cons_succ, List.getElem?_cons_zero]; rfl) (by decide) (by kernel_rfl) (by kernel_rfl) (by intro _ _ _ h; exact h) (Or.inl ⟨by rfl, ?hyz3⟩) hS0 ?restz3
  case hyz3 =>
    intro wx hx
    obtain ⟨s1, s2, s3, s4, s5, s6, s7, s8, s9, s10, s11, s12, s13, s14, s15, s16, s17, s18, s19, s20⟩ := hx
    go_simp
    try with_reducible rfl
  try simp only [Act.put, List.setIfInBounds_toArray, List.set_cons_zero, List.set_cons_succ]
  refine WS_one (i := 4) (by simp only [List.getElem?_toArray, List.getElem?_cons_succ, List.getElem?_cons_zero]; rfl) (by decide) (by kernel_rfl) (fun K hK => (if_pos (by kernel_rfl)).mpr ?_)
  go_simp
  refine (C4.out _ (below_via HBW.out b0)).mono ?_
  rintro e w1 ⟨rfl, c1⟩
  dsimp only
  have b1 : Below W.heap.size W w1 := below_via b0 c1
  have hS1 := HS.out _ b1
  refine hK _ _ hS1 ?_
  clear hK K hS0
  try simp only [Act.put, List.setIfInBounds_toArray, List.set_cons_zero, List.set_cons_succ]
  refine WS_take (i := 5) (v := ?vz5) (by simp only [List.getElem?_toArray, List.getElem?_cons_succ, List.getElem?_cons_zero]; rfl) (by decide) (by kernel_rfl) (by kernel_rfl) (by intro _ _ _ h; exact h) (Or.inl ⟨by rfl, ?hyz5⟩) hS1 ?restz5
  case hyz5 =>
    intro wx hx
    obtain ⟨s1, s2, s3, s4, s5, s6, s7, s8, s9, s10, s11, s12, s13, s14, s15, s16, s17, s18, s19, s20⟩ := hx
    go_simp
    try with_reducible rfl
  try simp only [Act.put, List.setIfInBounds_toArray, List.set_cons_zero, List.set_cons_succ]
  refine WS_take (i := 6) (v := ?vz6) (by simp only [List.getElem?_toArray, List.getElem?_cons_succ, List.getElem?_cons_zero]; rfl) (by decide) (by kernel_rfl) (by kernel_rfl) (by intro _ _ _ h; exact h) (Or.inl ⟨by rfl, ?hyz6⟩) hS1 ?restz6
  case hyz6 =>
    intro wx hx
    obtain ⟨s1, s2, s3, s4, s5, s6, s7, s8, s9, s10, s11, s12, s13, s14, s15, s16, s17, s18, s19, s20⟩ := hx
    go_simp
    try with_reducible rfl
  try simp only [Act.put, List.setIfInBounds_toArray, List.set_cons_zero, List.set_cons_succ]
  refine WS_take (i := 7) (v := ?vz7) (by simp only [List.getElem?_toArray, List.getElem?_cons_succ, List.getElem?_cons_zero]; rfl) (by decide) (by kernel_rfl) (by kernel_rfl) (by intro _ _ _ h; exact h) (Or.inl ⟨by rfl, ?hyz7⟩) hS1 ?restz7
  case hyz7 =>
    intro wx hx
    obtain ⟨s1, s2, s3, s4, s5, s6, s7, s8, s9, s10, s11, s12, s13, s14, s15, s16, s17, s18, s19, s20⟩ := hx
    go_simp
    try with_reducible rfl
  try simp only [Act.put, List.setIfInBounds_toArray, List.set_cons_zero, List.set_cons_succ]
  refine WS_take (i := 9) (v := ?vz9) (by simp only [List.getElem?_toArray, List.getElem?_cons_succ, List.getElem?_cons_zero]; rfl) (by decide) (by kernel_rfl) (by kernel_rfl) (by intro _ _ _ h; exact h) (Or.inl ⟨by rfl, ?hyz9⟩) hS1 ?restz9
  case hyz9 =>
    intro wx hx
    obtain ⟨s1, s2, s3, s4, s5, s6, s7, s8, s9, s10, s11, s12, s13, s14, s15, s16, s17, s18, s19, s20⟩ := hx
    go_simp
    try with_reducible rfl
  try simp only [Act.put, List.setIfInBounds_toArray, List.set_cons_zero, List.set_cons_succ]
  refine WS_take (i := 10) (v := ?vz10) (by simp only [List.getElem?_toArray, List.getElem?_cons_succ, List.getElem?_cons_zero]; rfl) (by decide) (by kernel_rfl) (by kernel_rfl) (by intro _ _ _ h; exact h) (Or.inl ⟨by rfl, ?hyz10⟩) hS1 ?restz10
  case hyz10 =>
    intro wx hx
    obtain ⟨s1, s2, s3, s4, s5, s6, s7, s8, s9, s10, s11, s12, s13, s14, s15, s16, s17, s18, s19, s20⟩ := hx
    go_simp
    try with_reducible rfl
  try simp only [Act.put, List.setIfInBounds_toArray, List.set_cons_zero, List.set_cons_succ]
  refine WS_one (i := 8) (by simp only [List.getElem?_toArray, List.getElem?_cons_succ, List.getElem?_cons_zero]; rfl) (by decide) (by kernel_rfl) (fun K hK => (if_pos (by kernel_rfl)).mpr ?_)
  go_simp
  refine (C8.out _ (below_via HBW.out b1)).mono ?_
  rintro e w2 ⟨u1, u2, rfl, o1, o2, c2⟩
  dsimp only
  have b2 : Below W.heap.size W w2 := below_via b1 c2
  have hS2 := HS.out _ b2
  have r1 := o1.rowC labF_len
  have r2 := o2.rowC hdF_len
  obtain ⟨Z1, z1, d1, rfl⟩ : ∃ A n c, u1 = .slice A n c := by obtain ⟨A, c, e, _⟩ := r1.shape; exact ⟨A, _, c, e⟩
  obtain ⟨Z2, z2, d2, rfl⟩ : ∃ A n c, u2 = .slice A n c := by obtain ⟨A, c, e, _⟩ := r2.shape; exact ⟨A, _, c, e⟩
  clear o1 o2
  refine hK _ _ hS2 ?_
  clear hK K hS1
  try simp only [Act.put, List.setIfInBounds_toArray, List.set_cons_zero, List.set_cons_succ]
  refine WS_one (i := 11) (by simp only [List.getElem?_toArray, List.getElem?_cons_succ, List.getElem?_cons_zero]; rfl) (by decide) (by kernel_rfl) (fun K hK => (if_pos (by kernel_rfl)).mpr ?_)
  go_simp
  refine (C11.out _ _ _ (below_via HBW.out b2) r1 r2).mono ?_
  rintro e w3 ⟨rfl, c3⟩
  dsimp only
  have b3 : Below W.heap.size W w3 := below_via b2 c3
  have hS3 := HS.out _ b3
  refine hK _ _ hS3 ?_
  clear hK K hS2
  try simp only [Act.put, List.setIfInBounds_toArray, List.set_cons_zero, List.set_cons_succ]
  refine WS_take (i := 12) (v := ?vz12) (by simp only [List.getElem?_toArray, List.getElem?_cons_succ, List.getElem?_cons_zero]; rfl) (by decide) (by kernel_rfl) (by kernel_rfl) (by intro _ _ _ h; exact h) (Or.inl ⟨by rfl, ?hyz12⟩) hS3 ?restz12
  case hyz12 =>
    intro wx hx
    obtain ⟨s1, s2, s3, s4, s5, s6, s7, s8, s9, s10, s11, s12, s13, s14, s15, s16, s17, s18, s19, s20⟩ := hx
    go_simp
    try with_reducible rfl
  try simp only [Act.put, List.setIfInBounds_toArray, List.set_cons_zero, List.set_cons_succ]
  refine WS_take (i := 13) (v := ?vz13) (by simp only [List.getElem?_toArray, List.getElem?_cons_succ, List.getElem?_cons_zero]; rfl) (by decide) (by kernel_rfl) (by kernel_rfl) (by intro _ _ _ h; exact h) (Or.inl ⟨by rfl, ?hyz13⟩) hS3 ?restz13
  case hyz13 =>
    intro wx hx
    obtain ⟨s1, s2, s3, s4, s5, s6, s7, s8, s9, s10, s11, s12, s13, s14, s15, s16, s17, s18, s19, s20⟩ := hx
    go_simp
    try with_reducible rfl
  try simp only [Act.put, List.setIfInBounds_toArray, List.set_cons_zero, List.set_cons_succ]
  refine WS_take (i := 14) (v := ?vz14) (by simp only [List.getElem?_toArray, List.getElem?_cons_succ, List.getElem?_cons_zero]; rfl) (by decide) (by kernel_rfl) (by kernel_rfl) (by intro _ _ _ h; exact h) (Or.inl ⟨by rfl, ?hyz14⟩) hS3 ?restz14
  case hyz14 =>
    intro wx hx
    obtain ⟨s1, s2, s3, s4, s5, s6, s7, s8, s9, s10, s11, s12, s13, s14, s15, s16, s17, s18, s19, s20⟩ := hx
    go_simp
    try with_reducible rfl
  try simp only [Act.put, List.setIfInBounds_toArray, List.set_cons_zero, List.set_cons_succ]
  refine WS_take (i := 15) (v := ?vz15) (by simp only [List.getElem?_toArray, List.getElem?_cons_succ, List.getElem?_cons_zero]; rfl) (by decide) (by kernel_rfl) (by kernel_rfl) (by intro _ _ _ h; exact h) (Or.inl ⟨by rfl, ?hyz15⟩) hS3 ?restz15
  case hyz15 =>
    intro wx hx
    obtain ⟨s1, s2, s3, s4, s5, s6, s7, s8, s9, s10, s11, s12, s13, s14, s15, s16, s17, s18, s19, s20⟩ := hx
    go_simp
    try with_reducible rfl
  try simp only [Act.put, List.setIfInBounds_toArray, List.set_cons_zero, List.set_cons_succ]
  refine WS_take (i := 16) (v := ?vz16) (by simp only [List.getElem?_toArray, List.getElem?_cons_succ, List.getElem?_cons_zero]; rfl) (by decide) (by kernel_rfl) (by kernel_rfl) (by intro _ _ _ h; exact h) (Or.inl ⟨by rfl, ?hyz16⟩) hS3 ?restz16
  case hyz16 =>
    intro wx hx
    obtain ⟨s1, s2, s3, s4, s5, s6, s7, s8, s9, s10, s11, s12, s13, s14, s15, s16, s17, s18, s19, s20⟩ := hx
    go_simp
    try with_reducible rfl
  try simp only [Act.put, List.setIfInBounds_toArray, List.set_cons_zero, List.set_cons_succ]
  refine WS_take (i := 17) (v := ?vz17) (by simp only [List.getElem?_toArray, List.getElem?_cons_succ, List.getElem?_cons_zero]; rfl) (by decide) (by kernel_rfl) (by kernel_rfl) (by intro _ _ _ h; exact h) (Or.inl ⟨by rfl, ?hyz17⟩) hS3 ?restz17
  case hyz17 =>
    intro wx hx
    obtain ⟨s1, s2, s3, s4, s5, s6, s7, s8, s9, s10, s11, s12, s13, s14, s15, s16, s17, s18, s19, s20⟩ := hx
    go_simp
    try with_reducible rfl
  try simp only [Act.put, List.setIfInBounds_toArray, List.set_cons_zero, List.set_cons_succ]
  refine WS_one (i := 18) (by simp only [List.getElem?_toArray, List.getElem?_cons_succ, List.getElem?_cons_zero]; rfl) (by decide) (by kernel_rfl) (fun K hK => (if_pos (by kernel_rfl)).mpr ?_)
  go_simp
  refine (C18.out _ (below_via HBW.out b3)).mono ?_
  rintro e w4 ⟨rfl, c4⟩
  dsimp only
  have b4 : Below W.heap.size W w4 := below_via b3 c4
  have hS4 := HS.out _ b4
  refine hK _ _ hS4 ?_
  clear hK K hS3
  try simp only [Act.put, List.setIfInBounds_toArray, List.set_cons_zero, List.set_cons_succ]
  refine WS_take (i := 19) (v := ?vz19) (by simp only [List.getElem?_toArray, List.getElem?_cons_succ, List.getElem?_cons_zero]; rfl) (by decide) (by kernel_rfl) (by kernel_rfl) (by intro _ _ _ h; exact h) (Or.inl ⟨by rfl, ?hyz19⟩) hS4 ?restz19
  case hyz19 =>
    intro wx hx
    obtain ⟨s1, s2, s3, s4, s5, s6, s7, s8, s9, s10, s11, s12, s13, s14, s15, s16, s17, s18, s19, s20⟩ := hx
    go_simp
    try with_reducible rfl
  try simp only [Act.put, List.setIfInBounds_toArray, List.set_cons_zero, List.set_cons_succ]
  refine WS_take (i := 20) (v := ?vz20) (by simp only [List.getElem?_toArray, List.getElem?_cons_succ, List.getElem?_cons_zero]; rfl) (by decide) (by kernel_rfl) (by kernel_rfl) (by intro _ _ _ h; exact h) (Or.inl ⟨by rfl, ?hyz20⟩) hS4 ?restz20
  case hyz20 =>
    intro wx hx
    obtain ⟨s1, s2, s3, s4, s5, s6, s7, s8, s9, s10, s11, s12, s13, s14, s15, s16, s17, s18, s19, s20⟩ := hx
    go_simp
    try with_reducible rfl
  try simp only [Act.put, List.setIfInBounds_toArray, List.set_cons_zero, List.set_cons_succ]
  refine WS_take (i := 21) (v := ?vz21) (by simp only [List.getElem?_toArray, List.getElem?_cons_succ, List.getElem?_cons_zero]; rfl) (by decide) (by kernel_rfl) (by kernel_rfl) (by intro _ _ _ h; exact h) (Or.inl ⟨by rfl, ?hyz21⟩) hS4 ?restz21
  case hyz21 =>
    intro wx hx
    obtain ⟨s1, s2, s3, s4, s5, s6, s7, s8, s9, s10, s11, s12, s13, s14, s15, s16, s17, s18, s19, s20⟩ := hx
    go_simp
    try with_reducible rfl
  try simp only [Act.put, List.setIfInBounds_toArray, List.set_cons_zero, List.set_cons_succ]
  refine WS_take (i := 22) (v := ?vz22) (by simp only [List.getElem?_toArray, List.getElem?_cons_succ, List.getElem?_cons_zero]; rfl) (by decide) (by kernel_rfl) (by kernel_rfl) (by intro _ _ _ h; exact h) (Or.inl ⟨by rfl, ?hyz22⟩) hS4 ?restz22
  case hyz22 =>
    intro wx hx
    obtain ⟨s1, s2, s3, s4, s5, s6, s7, s8, s9, s10, s11, s12, s13, s14, s15, s16, s17, s18, s19, s20⟩ := hx
    go_simp
    try with_reducible rfl
  try simp only [Act.put, List.setIfInBounds_toArray, List.set_cons_zero, List.set_cons_succ]
  refine WS_take (i := 23) (v := ?vz23) (by simp only [List.getElem?_toArray, List.getElem?_cons_succ, List.getElem?_cons_zero]; rfl) (by decide) (by kernel_rfl) (by kernel_rfl) (by intro _ _ _ h; exact h) (Or.inl ⟨by rfl, ?hyz23⟩) hS4 ?restz23
  case hyz23 =>
    intro wx hx
    obtain ⟨s1, s2, s3, s4, s5, s6, s7, s8, s9, s10, s11, s12, s13, s14, s15, s16, s17, s18, s19, s20⟩ := hx
    go_simp
    try with_reducible rfl
  try simp only [Act.put, List.setIfInBounds_toArray, List.set_cons_zero, List.set_cons_succ]
  refine WS_take (i := 24) (v := ?vz24) (by simp only [List.getElem?_toArray, List.getElem?_cons_succ, List.getElem?_cons_zero]; rfl) (by decide) (by kernel_rfl) (by kernel_rfl) (by intro _ _ _ h; exact h) (Or.inl ⟨by rfl, ?hyz24⟩) hS4 ?restz24
  case hyz24 =>
    intro wx hx
    obtain ⟨s1, s2, s3, s4, s5, s6, s7, s8, s9, s10, s11, s12, s13, s14, s15, s16, s17, s18, s19, s20⟩ := hx
    go_simp
    try with_reducible rfl
  try simp only [Act.put, List.setIfInBounds_toArray, List.set_cons_zero, List.set_cons_succ]
  refine WS_one (i := 25) (by simp only [List.getElem?_toArray, List.getElem?_cons_succ, List.getElem?_cons_zero]; rfl) (by decide) (by kernel_rfl) (fun K hK => (if_pos (by kernel_rfl)).mpr ?_)
  go_simp
  refine (C25.out _ (below_via HBW.out b4)).mono ?_
  rintro e w5 ⟨rfl, c5⟩
  dsimp only
  have b5 : Below W.heap.size W w5 := below_via b4 c5
  have hS5 := HS.out _ b5
  refine hK _ _ hS5 ?_
  clear hK K hS4
  try simp only [Act.put, List.setIfInBounds_toArray, List.set_cons_zero, List.set_cons_succ]
  refine WS_take (i := 26) (v := ?vz26) (by simp only [List.getElem?_toArray, List.getElem?_cons_succ, List.getElem?_cons_zero]; rfl) (by decide) (by kernel_rfl) (by kernel_rfl) (by intro _ _ _ h; exact h) (Or.inl ⟨by rfl, ?hyz26⟩) hS5 ?restz26
  case hyz26 =>
    intro wx hx
    obtain ⟨s1, s2, s3, s4, s5, s6, s7, s8, s9, s10, s11, s12, s13, s14, s15, s16, s17, s18, s19, s20⟩ := hx
    go_simp
    try with_reducible rfl
  try simp only [Act.put, List.setIfInBounds_toArray, List.set_cons_zero, List.set_cons_succ]
  refine WS_take (i := 27) (v := ?vz27) (by simp only [List.getElem?_toArray, List.getElem?_cons_succ, List.getElem?_cons_zero]; rfl) (by decide) (by kernel_rfl) (by kernel_rfl) (by intro _ _ _ h; exact h) (Or.inl ⟨by rfl, ?hyz27⟩) hS5 ?restz27
  case hyz27 =>
    intro wx hx
    obtain ⟨s1, s2, s3, s4, s5, s6, s7, s8, s9, s10, s11, s12, s13, s14, s15, s16, s17, s18, s19, s20⟩ := hx
    go_simp
    try with_reducible rfl
  try simp only [Act.put, List.setIfInBounds_toArray, List.set_cons_zero, List.set_cons_succ]
  refine WS_take (i := 28) (v := ?vz28) (by simp only [List.getElem?_toArray, List.getElem?_cons_succ, List.getElem?_cons_zero]; rfl) (by decide) (by kernel_rfl) (by kernel_rfl) (by intro _ _ _ h; exact h) (Or.inl ⟨by rfl, ?hyz28⟩) hS5 ?restz28
  case hyz28 =>
    intro wx hx
    obtain ⟨s1, s2, s3, s4, s5, s6, s7, s8, s9, s10, s11, s12, s13, s14, s15, s16, s17, s18, s19, s20⟩ := hx
    go_simp
    try with_reducible rfl
  try simp only [Act.put, List.setIfInBounds_toArray, List.set_cons_zero, List.set_cons_succ]
  refine WS_take (i := 29) (v := ?vz29) (by simp only [List.getElem?_toArray, List.getElem?_cons_succ, List.getElem?_cons_zero]; rfl) (by decide) (by kernel_rfl) (by kernel_rfl) (by intro _ _ _ h; exact h) (Or.inl ⟨by rfl, ?hyz29⟩) hS5 ?restz29
  case hyz29 =>
    intro wx hx
    obtain ⟨s1, s2, s3, s4, s5, s6, s7, s8, s9, s10, s11, s12, s13, s14, s15, s16, s17, s18, s19, s20⟩ := hx
    go_simp
    try with_reducible rfl
  try simp only [Act.put, List.setIfInBounds_toArray, List.set_cons_zero, List.set_cons_succ]
  refine WS_take (i := 30) (v := ?vz30) (by simp only [List.getElem?_toArray, List.getElem?_cons_succ, List.getElem?_cons_zero]; rfl) (by decide) (by kernel_rfl) (by kernel_rfl) (by intro _ _ _ h; exact h) (Or.inl ⟨by rfl, ?hyz30⟩) hS5 ?restz30
  case hyz30 =>
    intro wx hx
    obtain ⟨s1, s2, s3, s4, s5, s6, s7, s8, s9, s10, s11, s12, s13, s14, s15, s16, s17, s18, s19, s20⟩ := hx
    go_simp
    try with_reducible rfl
  try simp only [Act.put, List.setIfInBounds_toArray, List.set_cons_zero, List.set_cons_succ]
  refine WS_take (i := 31) (v := ?vz31) (by simp only [List.getElem?_toArray, List.getElem?_cons_succ, List.getElem?_cons_zero]; rfl) (by decide) (by kernel_rfl) (by kernel_rfl) (by intro _ _ _ h; exact h) (Or.inl ⟨by rfl, ?hyz31⟩) hS5 ?restz31
  case hyz31 =>
    intro wx hx
    obtain ⟨s1, s2, s3, s4, s5, s6, s7, s8, s9, s10, s11, s12, s13, s14, s15, s16, s17, s18, s19, s20⟩ := hx
    go_simp
    try with_reducible rfl
  try simp only [Act.put, List.setIfInBounds_toArray, List.set_cons_zero, List.set_cons_succ]
  refine WS_one (i := 32) (by simp only [List.getElem?_toArray, List.getElem?_cons_succ, List.getElem?_cons_zero]; rfl) (by decide) (by kernel_rfl) (fun K hK => (if_pos (by kernel_rfl)).mpr ?_)
  go_simp
  refine (C32.out _ (below_via HBW.out b5)).mono ?_
  rintro e w6 ⟨rfl, c6⟩
  dsimp only
  have b6 : Below W.heap.size W w6 := below_via b5 c6
  have hS6 := HS.out _ b6
  refine hK _ _ hS6 ?_
  clear hK K hS5
  try simp only [Act.put, List.setIfInBounds_toArray, List.set_cons_zero, List.set_cons_succ]
  refine WS_take (i := 33) (v := ?vz33) (by simp only [List.getElem?_toArray, List.getElem?_cons_succ, List.getElem?_cons_zero]; rfl) (by decide) (by kernel_rfl) (by kernel_rfl) (by intro _ _ _ h; exact h) (Or.inl ⟨by rfl, ?hyz33⟩) hS6 ?restz33
  case hyz33 =>
    intro wx hx
    obtain ⟨s1, s2, s3, s4, s5, s6, s7, s8, s9, s10, s11, s12, s13, s14, s15, s16, s17, s18, s19, s20⟩ := hx
    go_simp
    try with_reducible rfl
  try simp only [Act.put, List.setIfInBounds_toArray, List.set_cons_zero, List.set_cons_succ]
  refine WS_take (i := 34) (v := ?vz34) (by simp only [List.getElem?_toArray, List.getElem?_cons_succ, List.getElem?_cons_zero]; rfl) (by decide) (by kernel_rfl) (by kernel_rfl) (by intro _ _ _ h; exact h) (Or.inl ⟨by rfl, ?hyz34⟩) hS6 ?restz34
  case hyz34 =>
    intro wx hx
    obtain ⟨s1, s2, s3, s4, s5, s6, s7, s8, s9, s10, s11, s12, s13, s14, s15, s16, s17, s18, s19, s20⟩ := hx
    go_simp
    try with_reducible rfl
  try simp only [Act.put, List.setIfInBounds_toArray, List.set_cons_zero, List.set_cons_succ]
  refine WS_take (i := 35) (v := ?vz35) (by simp only [List.getElem?_toArray, List.getElem?_cons_succ, List.getElem?_cons_zero]; rfl) (by decide) (by kernel_rfl) (by kernel_rfl) (by intro _ _ _ h; exact h) (Or.inl ⟨by rfl, ?hyz35⟩) hS6 ?restz35
  case hyz35 =>
    intro wx hx
    obtain ⟨s1, s2, s3, s4, s5, s6, s7, s8, s9, s10, s11, s12, s13, s14, s15, s16, s17, s18, s19, s20⟩ := hx
    go_simp
    try with_reducible rfl
  try simp only [Act.put, List.setIfInBounds_toArray, List.set_cons_zero, List.set_cons_succ]
  refine WS_take (i := 36) (v := ?vz36) (by simp only [List.getElem?_toArray, List.getElem?_cons_succ, List.getElem?_cons_zero]; rfl) (by decide) (by kernel_rfl) (by kernel_rfl) (by intro _ _ _ h; exact h) (Or.inl ⟨by rfl, ?hyz36⟩) hS6 ?restz36
  case hyz36 =>
    intro wx hx
    obtain ⟨s1, s2, s3, s4, s5, s6, s7, s8, s9, s10, s11, s12, s13, s14, s15, s16, s17, s18, s19, s20⟩ := hx
    go_simp
    try with_reducible rfl
  try simp only [Act.put, List.setIfInBounds_toArray, List.set_cons_zero, List.set_cons_succ]
  refine WS_take (i := 37) (v := ?vz37) (by simp only [List.getElem?_toArray, List.getElem?_cons_succ, List.getElem?_cons_zero]; rfl) (by decide) (by kernel_rfl) (by kernel_rfl) (by intro _ _ _ h; exact h) (Or.inl ⟨by rfl, ?hyz37⟩) hS6 ?restz37
  case hyz37 =>
    intro wx hx
    obtain ⟨s1, s2, s3, s4, s5, s6, s7, s8, s9, s10, s11, s12, s13, s14, s15, s16, s17, s18, s19, s20⟩ := hx
    go_simp
    try with_reducible rfl
  try simp only [Act.put, List.setIfInBounds_toArray, List.set_cons_zero, List.set_cons_succ]
  refine WS_take (i := 38) (v := ?vz38) (by simp only [List.getElem?_toArray, List.getElem?_cons_succ, List.getElem?_cons_zero]; rfl) (by decide) (by kernel_rfl) (by kernel_rfl) (by intro _ _ _ h; exact h) (Or.inl ⟨by rfl, ?hyz38⟩) hS6 ?restz38
  case hyz38 =>
    intro wx hx
    obtain ⟨s1, s2, s3, s4, s5, s6, s7, s8, s9, s10, s11, s12, s13, s14, s15, s16, s17, s18, s19, s20⟩ := hx
    go_simp
    try with_reducible rfl
  try simp only [Act.put, List.setIfInBounds_toArray, List.set_cons_zero, List.set_cons_succ]
  refine WS_one (i := 39) (by simp only [List.getElem?_toArray, List.getElem?_cons_succ, List.getElem?_cons_zero]; rfl) (by decide) (by kernel_rfl) (fun K hK => (if_pos (by kernel_rfl)).mpr ?_)
  go_simp
  refine (C39.out _ (below_via HBW.out b6)).mono ?_
  rintro e w7 ⟨rfl, c7⟩
  dsimp only
  have b7 : Below W.heap.size W w7 := below_via b6 c7
  have hS7 := HS.out _ b7
  refine hK _ _ hS7 ?_
  clear hK K hS6
  try simp only [Act.put, List.setIfInBounds_toArray, List.set_cons_zero, List.set_cons_succ]
  refine WS_take (i := 40) (v := ?vz40) (by simp only [List.getElem?_toArray, List.getElem?_cons_succ, List.getElem?_cons_zero]; rfl) (by decide) (by kernel_rfl) (by kernel_rfl) (by intro _ _ _ h; exact h) (Or.inl ⟨by rfl, ?hyz40⟩) hS7 ?restz40
  case hyz40 =>
    intro wx hx
    obtain ⟨s1, s2, s3, s4, s5, s6, s7, s8, s9, s10, s11, s12, s13, s14, s15, s16, s17, s18, s19, s20⟩ := hx
    go_simp
    try with_reducible rfl
  try simp only [Act.put, List.setIfInBounds_toArray, List.set_cons_zero, List.set_cons_succ]
  refine WS_take (i := 41) (v := ?vz41) (by simp only [List.getElem?_toArray, List.getElem?_cons_succ, List.getElem?_cons_zero]; rfl) (by decide) (by kernel_rfl) (by kernel_rfl) (by intro _ _ _ h; exact h) (Or.inl ⟨by rfl, ?hyz41⟩) hS7 ?restz41
  case hyz41 =>
    intro wx hx
    obtain ⟨s1, s2, s3, s4, s5, s6, s7, s8, s9, s10, s11, s12, s13, s14, s15, s16, s17, s18, s19, s20⟩ := hx
    go_simp
    try with_reducible rfl
  try simp only [Act.put, List.setIfInBounds_toArray, List.set_cons_zero, List.set_cons_succ]
  refine WS_take (i := 42) (v := ?vz42) (by simp only [List.getElem?_toArray, List.getElem?_cons_succ, List.getElem?_cons_zero]; rfl) (by decide) (by kernel_rfl) (by kernel_rfl) (by intro _ _ _ h; exact h) (Or.inl ⟨by rfl, ?hyz42⟩) hS7 ?restz42
  case hyz42 =>
    intro wx hx
    obtain ⟨s1, s2, s3, s4, s5, s6, s7, s8, s9, s10, s11, s12, s13, s14, s15, s16, s17, s18, s19, s20⟩ := hx
    go_simp
    try with_reducible rfl
  try simp only [Act.put, List.setIfInBounds_toArray, List.set_cons_zero, List.set_cons_succ]
  refine WS_take (i := 43) (v := ?vz43) (by simp only [List.getElem?_toArray, List.getElem?_cons_succ, List.getElem?_cons_zero]; rfl) (by decide) (by kernel_rfl) (by kernel_rfl) (by intro _ _ _ h; exact h) (Or.inl ⟨by rfl, ?hyz43⟩) hS7 ?restz43
  case hyz43 =>
    intro wx hx
    obtain ⟨s1, s2, s3, s4, s5, s6, s7, s8, s9, s10, s11, s12, s13, s14, s15, s16, s17, s18, s19, s20⟩ := hx
    go_simp
    try with_reducible rfl
  try simp only [Act.put, List.setIfInBounds_toArray, List.set_cons_zero, List.set_cons_succ]
  refine WS_take (i := 44) (v := ?vz44) (by simp only [List.getElem?_toArray, List.getElem?_cons_succ, List.getElem?_cons_zero]; rfl) (by decide) (by kernel_rfl) (by kernel_rfl) (by intro _ _ _ h; exact h) (Or.inl ⟨by rfl, ?hyz44⟩) hS7 ?restz44
  case hyz44 =>
    intro wx hx
    obtain ⟨s1, s2, s3, s4, s5, s6, s7, s8, s9, s10, s11, s12, s13, s14, s15, s16, s17, s18, s19, s20⟩ := hx
    go_simp
    try with_reducible rfl
  try simp only [Act.put, List.setIfInBounds_toArray, List.set_cons_zero, List.set_cons_succ]
  refine WS_take (i := 45) (v := ?vz45) (by simp only [List.getElem?_toArray, List.getElem?_cons_succ, List.getElem?_cons_zero]; rfl) (by decide) (by kernel_rfl) (by kernel_rfl) (by intro _ _ _ h; exact h) (Or.inl ⟨by rfl, ?hyz45⟩) hS7 ?restz45
  case hyz45 =>
    intro wx hx
    obtain ⟨s1, s2, s3, s4, s5, s6, s7, s8, s9, s10, s11, s12, s13, s14, s15, s16, s17, s18, s19, s20⟩ := hx
    go_simp
    try with_reducible rfl
  try simp only [Act.put, List.setIfInBounds_toArray, List.set_cons_zero, List.set_cons_succ]
  refine WS_done (by kernel_rfl) ?_
  simp only [List.drop_succ_cons, List.drop_zero]
  go_wp2_with fail
  refine (C46.out _ (below_via HBW.out b7)).mono ?_
  rintro e w9 ⟨rfl, c9⟩
  have HB9 := Lib.hid (below_via HBW.out (below_via b7 c9))
  clear c9 hS7
  go_wp2_with fail
  go_ret
  exact ⟨rfl, HB9.out⟩
end Go.Proofs.YtjmmfihmamcopaaGreatDoor
