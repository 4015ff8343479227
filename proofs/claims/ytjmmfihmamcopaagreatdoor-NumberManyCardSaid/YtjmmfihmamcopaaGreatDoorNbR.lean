/- number: rows. -/
import Derived.Test.YtjmmfihmamcopaaGreatDoorNbN
namespace Go.Proofs.YtjmmfihmamcopaaGreatDoor
open Go.RowKit Tx Nb

namespace Nb
theorem Bd.row {s : St} {T : Nat} (h : Bd s T) (hT : 600 ≤ T) (kd : Int) (t : Bs) (ht : t.length ≤ 600) : Bd (Nb.block s kd [t]) (T + 1) := by
  obtain ⟨a, b, c, d, e', f, g, i, j, k, l, w, n, o, p, q⟩ := h.mono (Nat.le_succ T)
  refine ⟨?_, fun x hx => ?_, c, d, e', f, g, i, j, k, l, ?_, n, o, p, q⟩
  · have := h.bl
    simp only [Nb.block, List.length_append, List.length_singleton]
    omega
  · simp only [Nb.block] at hx
    rcases List.mem_append.1 hx with hx | hx
    · exact b x hx
    · simp only [List.mem_singleton] at hx
      subst hx
      exact ⟨by simp, fun w hw => by simp at hw; subst hw; omega⟩
  · have := h.wo
    simp only [Nb.block, List.length_singleton]
    omega
theorem Bd.lines : ∀ (l : List Bs) {s : St} {T : Nat}, Bd s T → 600 ≤ T → (∀ t ∈ l, t.length ≤ 600) → Bd (Nb.lines s l) (T + l.length)
  | [], _, _, h, _, _ => h
  | t :: l, s, T, h, hT, ht => by
    have h1 := h.row hT 2 t (ht t (by simp))
    have := Bd.lines l (s := Nb.block s 2 [t]) h1 (by omega) (fun u hu => ht u (by simp [hu]))
    have e : T + 1 + l.length = T + (t :: l).length := by simp; omega
    rw [e] at this
    exact this
theorem lines_snoc (s : St) (l : List Bs) (t : Bs) : Nb.lines s (l ++ [t]) = Nb.block (Nb.lines s l) 2 [t] := by simp [Nb.lines, List.foldl_append]
theorem ciLine_len {E : Env} (h : E.Ok) : ∀ t ∈ E.bbl.map ciLine, t.length ≤ 600 := fun t ht => by
  obtain ⟨c, hc, rfl⟩ := List.mem_map.1 ht
  have := h.bbt c hc
  simp [ciLine]
  omega
theorem hdLine_len {E : Env} (h : E.Ok) : ∀ t ∈ E.heads.map hdLine, t.length ≤ 600 := fun t ht => by
  obtain ⟨c, hc, rfl⟩ := List.mem_map.1 ht
  have := h.hdt c hc
  have := dig_len6 c.page
  unfold hdLine
  split <;> simp <;> omega
end Nb
section
variable {B wb : Nat} {w0 w : World} {k : Cst} {s : St}
theorem row_own (w : World) (t : Bs) : OwnC 9 1 txF w.heap.size (w.alloc (.cells #[vs t] 9)) (.slice (some ⟨w.heap.size, 0, none⟩) 1 1) [t] := rowC_lit (f := txF) txF_len 9 [t] w (by simp [maxLen])
set_option maxRecDepth 100000 in
theorem row_any (h : Is B w0 w wb k s) (T : Nat) (hT : T ≤ 900000) (hd : Bd s T) (pb : Nat) (hp : (pb, (.cells #[.pointer (some ⟨wb, 0, none⟩)] 73 (0, 0))) ∈ k.res) (t : Bs) :
    Calls Tryz.prog 59 #[vs t, .pointer (some ⟨pb, 0, none⟩)] w fun e' w' => e' = .returned (.tuple #[]) ∧ Is B w0 w' wb k (Nb.block s 2 [t]) := by
  have hc : w.cell? ⟨pb, 0, none⟩ = some (.pointer (some ⟨wb, 0, none⟩)) := by rw [Lib.cell_of_heap (h.res hp)]; rfl
  have HBK := Lib.hid (block_any (h.with (((Below.refl w.heap.size w)).alloc (Nat.le_refl _) _) (row_own w t)) 2 (by have := hd.bl; omega) (by have := hd.wo; omega) (by simp))
  clear h hd hp
  go_enter Tryz.func59, Tryz.ntmps59
  go_wp2_with fail
  refine HBK.out.mono ?_
  rintro e w2 ⟨rfl, H2⟩
  have HK2 := Lib.hid H2
  clear H2
  go_wp2_with fail
  go_end0
  exact ⟨rfl, HK2.out⟩
set_option maxRecDepth 100000 in
set_option maxHeartbeats 32000000 in
theorem rows_any {E : Env} (h : Is B w0 w wb k s) (T : Nat) (hT : T ≤ 800000) (hT6 : 600 ≤ T) (hd : Bd s T) (hE : EnvIs B w0 k E) (x : It) (hx : x.kind = 13 ∨ x.kind = 14 ∨ x.kind = 15) :
    Calls Tryz.prog 32 #[.pointer (some ⟨wb, 0, none⟩), .agg #[.int .i64 x.kind, vs x.s]] w fun e' w' => e' = .returned (.tuple #[]) ∧ Is B w0 w' wb k (Nb.rows E s x) := by
  obtain ⟨w1, hw1⟩ : ∃ w1, w1 = (w.alloc (.cells #[.pointer (some ⟨wb, 0, none⟩)] 73)).alloc (.cells #[.int .i64 x.kind, vs x.s] 59) := ⟨_, rfl⟩
  have hk : Is B w0 w1 wb { k with res := (w.heap.size + 1, (.cells #[.int .i64 x.kind, vs x.s] 59 (0, 0))) :: (w.heap.size, (.cells #[.pointer (some ⟨wb, 0, none⟩)] 73 (0, 0))) :: k.res } s := by
    have h1 := h.keep ((Below.refl w.heap.size w).alloc (Nat.le_refl _) (.cells #[.pointer (some ⟨wb, 0, none⟩)] 73 (0, 0))) w.heap.size (.cells #[.pointer (some ⟨wb, 0, none⟩)] 73 (0, 0)) (Nat.le_refl _) (heap_alloc_new w _)
    have h2 := h1.keep ((Below.refl _ _).alloc (Nat.le_refl _) (.cells #[.int .i64 x.kind, vs x.s] 59 (0, 0))) _ (.cells #[.int .i64 x.kind, vs x.s] 59 (0, 0)) (Nat.le_refl _) (heap_alloc_new _ _)
    rw [hw1]
    have e : (w.alloc (.cells #[.pointer (some ⟨wb, 0, none⟩)] 73 (0, 0))).heap.size = w.heap.size + 1 := by simp
    rw [e] at h2
    exact h2
  have HK1 := Lib.hid hk
  have HW1 := Lib.hid hw1
  have HE := Lib.hid hE
  have HBD := Lib.hid hd.close
  have HCL := Lib.hid (close_any HK1.out)
  have hmf : ∀ (fn : Fn) (first cap : Array Value) (w : World), (Instr.makeFunc fn first cap).run Tryz.prog w = .ok (.func fn first cap) w := fun _ _ _ _ => rfl
  have y0 : w1.cell? ⟨w.heap.size, 0, none⟩ = some (.pointer (some ⟨wb, 0, none⟩)) := by rw [Lib.cell_of_heap (hk.res (p := (w.heap.size, (.cells #[.pointer (some ⟨wb, 0, none⟩)] 73 (0, 0)))) (by simp))]; rfl
  rw [hw1] at y0
  clear h hd hE hk hw1
  rcases hx with h13 | h14 | h15
  · have hkb : (x.kind == 13) = true := by simp [h13]
    have HR : Hid (Nb.rows E s x = lines (noteIf { Nb.close s with bibs := (once (Nb.close s).bibs x.s 8).1 } (once (Nb.close s).bibs x.s 8).2 x.s) (E.bbl.map ciLine)) := Lib.hid (by unfold Nb.rows; simp only [h13, if_true])
    clear h13
    go_enter Tryz.func32, Tryz.ntmps32
    go_wp2_with fail
    rw [← HW1.out]
    refine HCL.out.mono ?_
    rintro e w2 ⟨rfl, H2⟩
    have HK2 := Lib.hid H2
    have y0' : w2.cell? ⟨w.heap.size, 0, none⟩ = some (.pointer (some ⟨wb, 0, none⟩)) := by rw [Lib.cell_of_heap (H2.res (p := (w.heap.size, (.cells #[.pointer (some ⟨wb, 0, none⟩)] 73 (0, 0)))) (by simp))]; rfl
    have z0 : w2.cell? ⟨w.heap.size + 1, 0, none⟩ = some (.int .i64 x.kind) := by rw [Lib.cell_of_heap (H2.res (p := (w.heap.size + 1, (.cells #[.int .i64 x.kind, vs x.s] 59 (0, 0)))) (by simp))]; rfl
    clear H2 y0
    go_upto_region 10 with fail
    obtain ⟨v6, hw6⟩ := HK2.out
    have hw6d := hw6.below ((Below.refl w2.heap.size w2).drew)
    have HON := Lib.hid (once_any (w := w2.drew) hw6d 4 (by omega) (Nb.close s).bibs (fun l => { Nb.close s with bibs := l }) rfl (fun _ => rfl) (fun _ => rfl) (fun _ => rfl) (fun _ _ => rfl) (fun l v j h1 h2 h3 => by rcases ten_cases h3 with rfl | rfl | rfl | rfl | rfl | rfl | rfl | rfl | rfl | rfl <;> first | rfl | omega) (by have := HBD.out.nt; omega) (by have := HBD.out.bb; omega) x.s 8 (by omega))
    have hS0 : (fun wz : World => wz.cell? ⟨w.heap.size, 0, none⟩ = some (.pointer (some ⟨wb, 0, none⟩)) ∧ wz.cell? ⟨wb, 4, none⟩ = some (v6 4) ∧ wz.cell? ⟨w.heap.size + 1, 1, none⟩ = some (vs x.s)) w2.drew := ⟨by rw [Lib.cell_of_heap (hw6d.res (w.heap.size, (.cells #[.pointer (some ⟨wb, 0, none⟩)] 73 (0, 0))) (by simp)).1]; rfl, hw6d.cell 4, by rw [Lib.cell_of_heap (hw6d.res (w.heap.size + 1, (.cells #[.int .i64 x.kind, vs x.s] 59 (0, 0))) (by simp)).1]; rfl⟩
    have HB1 := Lib.hid ((HBD.out.bibs (once (Nb.close s).bibs x.s 8).1 (by have := once_len (Nb.close s).bibs x.s 8; have := HBD.out.bb; omega)).noteIf (once (Nb.close s).bibs x.s 8).2 x.s)
    clear hw6 hw6d y0' z0
    refine wp_region_headS 11 (fun wz : World => wz.cell? ⟨w.heap.size, 0, none⟩ = some (.pointer (some ⟨wb, 0, none⟩)) ∧ wz.cell? ⟨wb, 4, none⟩ = some (v6 4) ∧ wz.cell? ⟨w.heap.size + 1, 1, none⟩ = some (vs x.s)) (by kernel_rfl) (by kernel_rfl) ?_
    refine WS_take (i := 0) (v := ?va0) (by simp only [List.getElem?_toArray, List.getElem?_cons_zero]; rfl) (by decide) (by kernel_rfl) (by kernel_rfl) (by intro _ _ _ h; exact h) (Or.inl ⟨by rfl, ?hya0⟩) hS0 ?resta0
    case hya0 =>
      intro wx hx
      obtain ⟨s1, s2, s3⟩ := hx
      go_simp
      try with_reducible rfl
    try simp only [Act.put, List.setIfInBounds_toArray, List.set_cons_zero, List.set_cons_succ]
    refine WS_take (i := 1) (v := ?va1) (by simp only [List.getElem?_toArray, List.getElem?_cons_succ, List.getElem?_cons_zero]; rfl) (by decide) (by kernel_rfl) (by kernel_rfl) (by intro _ _ _ h; exact h) (Or.inl ⟨by rfl, ?hya1⟩) hS0 ?resta1
    case hya1 =>
      intro wx hx
      obtain ⟨s1, s2, s3⟩ := hx
      go_simp
      try with_reducible rfl
    try simp only [Act.put, List.setIfInBounds_toArray, List.set_cons_zero, List.set_cons_succ]
    refine WS_take (i := 2) (v := ?va2) (by simp only [List.getElem?_toArray, List.getElem?_cons_succ, List.getElem?_cons_zero]; rfl) (by decide) (by kernel_rfl) (by kernel_rfl) (by intro _ _ _ h; exact h) (Or.inl ⟨by rfl, ?hya2⟩) hS0 ?resta2
    case hya2 =>
      intro wx hx
      obtain ⟨s1, s2, s3⟩ := hx
      go_simp
      try with_reducible rfl
    try simp only [Act.put, List.setIfInBounds_toArray, List.set_cons_zero, List.set_cons_succ]
    refine WS_take (i := 3) (v := ?va3) (by simp only [List.getElem?_toArray, List.getElem?_cons_succ, List.getElem?_cons_zero]; rfl) (by decide) (by kernel_rfl) (by kernel_rfl) (by intro _ _ _ h; exact h) (Or.inl ⟨by rfl, ?hya3⟩) hS0 ?resta3
    case hya3 =>
      intro wx hx
      obtain ⟨s1, s2, s3⟩ := hx
      go_simp
      try with_reducible rfl
    try simp only [Act.put, List.setIfInBounds_toArray, List.set_cons_zero, List.set_cons_succ]
    refine WS_take (i := 4) (v := ?va4) (by simp only [List.getElem?_toArray, List.getElem?_cons_succ, List.getElem?_cons_zero]; rfl) (by decide) (by kernel_rfl) (by kernel_rfl) (by intro _ _ _ h; exact h) (Or.inl ⟨by rfl, ?hya4⟩) hS0 ?resta4
    case hya4 =>
      intro wx hx
      obtain ⟨s1, s2, s3⟩ := hx
      go_simp
      try with_reducible rfl
    try simp only [Act.put, List.setIfInBounds_toArray, List.set_cons_zero, List.set_cons_succ]
    refine WS_take (i := 5) (v := ?va5) (by simp only [List.getElem?_toArray, List.getElem?_cons_succ, List.getElem?_cons_zero]; rfl) (by decide) (by kernel_rfl) (by kernel_rfl) (by intro _ _ _ h; exact h) (Or.inl ⟨by rfl, ?hya5⟩) hS0 ?resta5
    case hya5 =>
      intro wx hx
      obtain ⟨s1, s2, s3⟩ := hx
      go_simp
      try with_reducible rfl
    try simp only [Act.put, List.setIfInBounds_toArray, List.set_cons_zero, List.set_cons_succ]
    refine WS_take (i := 6) (v := ?va6) (by simp only [List.getElem?_toArray, List.getElem?_cons_succ, List.getElem?_cons_zero]; rfl) (by decide) (by kernel_rfl) (by kernel_rfl) (by intro _ _ _ h; exact h) (Or.inl ⟨by rfl, ?hya6⟩) hS0 ?resta6
    case hya6 =>
      intro wx hx
      obtain ⟨s1, s2, s3⟩ := hx
      go_simp
      try with_reducible rfl
    try simp only [Act.put, List.setIfInBounds_toArray, List.set_cons_zero, List.set_cons_succ]
    refine WS_take (i := 7) (v := ?va7) (by simp only [List.getElem?_toArray, List.getElem?_cons_succ, List.getElem?_cons_zero]; rfl) (by decide) (by kernel_rfl) (by kernel_rfl) (by intro _ _ _ h; exact h) (Or.inl ⟨by rfl, ?hya7⟩) hS0 ?resta7
    case hya7 =>
      intro wx hx
      obtain ⟨s1, s2, s3⟩ := hx
      go_simp
      try with_reducible rfl
    try simp only [Act.put, List.setIfInBounds_toArray, List.set_cons_zero, List.set_cons_succ]
    refine WS_take (i := 8) (v := ?va8) (by simp only [List.getElem?_toArray, List.getElem?_cons_succ, List.getElem?_cons_zero]; rfl) (by decide) (by kernel_rfl) (by kernel_rfl) (by intro _ _ _ h; exact h) (Or.inl ⟨by rfl, ?hya8⟩) hS0 ?resta8
    case hya8 =>
      intro wx hx
      obtain ⟨s1, s2, s3⟩ := hx
      go_simp
      try with_reducible rfl
    try simp only [Act.put, List.setIfInBounds_toArray, List.set_cons_zero, List.set_cons_succ]
    refine WS_take (i := 9) (v := ?va9) (by simp only [List.getElem?_toArray, List.getElem?_cons_succ, List.getElem?_cons_zero]; rfl) (by decide) (by kernel_rfl) (by kernel_rfl) (by intro _ _ _ h; exact h) (Or.inl ⟨by rfl, ?hya9⟩) hS0 ?resta9
    case hya9 =>
      intro wx hx
      obtain ⟨s1, s2, s3⟩ := hx
      go_simp
      try with_reducible rfl
    try simp only [Act.put, List.setIfInBounds_toArray, List.set_cons_zero, List.set_cons_succ]
    refine WS_one (i := 10) (by simp only [List.getElem?_toArray, List.getElem?_cons_succ, List.getElem?_cons_zero]; rfl) (by decide) (by kernel_rfl) (fun K hK => (if_pos (by kernel_rfl)).mpr ?_)
    go_simp
    refine HON.out.mono ?_
    rintro e w7 ⟨A7, n7, c7, rfl, q1, q2, q3, q4⟩
    dsimp only
    have hS7 : (fun wz : World => wz.cell? ⟨w.heap.size, 0, none⟩ = some (.pointer (some ⟨wb, 0, none⟩)) ∧ wz.cell? ⟨wb, 4, none⟩ = some (v6 4) ∧ wz.cell? ⟨w.heap.size + 1, 1, none⟩ = some (vs x.s)) w7 := ⟨by rw [Lib.cell_of_heap (q4 (w.heap.size, (.cells #[.pointer (some ⟨wb, 0, none⟩)] 73 (0, 0))) (by simp))]; rfl, q1, by rw [Lib.cell_of_heap (q4 (w.heap.size + 1, (.cells #[.int .i64 x.kind, vs x.s] 59 (0, 0))) (by simp))]; rfl⟩
    have HQ := Lib.hid q3
    refine hK _ _ hS7 ?_
    clear hK K hS7 hS0 q3 q4
    try simp only [Act.put, List.setIfInBounds_toArray, List.set_cons_zero, List.set_cons_succ]
    refine WS_done (by kernel_rfl) ?_
    simp only [List.drop_succ_cons, List.drop_zero]
    go_upto_region 11 with fail
    obtain ⟨WX, hWX⟩ : ∃ WX, WX = w7.setCell ⟨wb, 4, none⟩ (.slice A7 n7 c7) := ⟨_, rfl⟩
    have hq := HQ.out
    rw [← hWX] at hq ⊢
    obtain ⟨s1, hs1⟩ : ∃ s1, s1 = noteIf { Nb.close s with bibs := (once (Nb.close s).bibs x.s 8).1 } (once (Nb.close s).bibs x.s 8).2 x.s := ⟨_, rfl⟩
    rw [← hs1] at hq HB1 HR
    have HX := Lib.hid hq
    have zp : WX.cell? ⟨w.heap.size, 0, none⟩ = some (.pointer (some ⟨wb, 0, none⟩)) := by rw [Lib.cell_of_heap (hq.res (p := (w.heap.size, (.cells #[.pointer (some ⟨wb, 0, none⟩)] 73 (0, 0)))) (by simp))]; rfl
    clear hq hs1 hWX q1 q2
    have hrow := below_row HE.out.bb HX.out.bel HX.out.hB
    obtain ⟨bA, bc, hbv, -⟩ := hrow.shape
    have z14 : WX.cell? ⟨wb, 14, none⟩ = some (.slice bA E.bbl.length bc) := by rw [← hbv]; exact (HX.out.env).2.2.2.2.1
    have HBV := Lib.hid hbv
    have hbl := HE.out.ok.bb
    clear hrow hbv
    go_wp2_with fail
    go_loopw [52] (fun i wr => ∃ j : Nat, j ≤ E.bbl.length ∧ i = .int .i64 j ∧ Is B w0 wr wb { k with res := (w.heap.size + 1, (.cells #[.int .i64 x.kind, vs x.s] 59 (0, 0))) :: (w.heap.size, (.cells #[.pointer (some ⟨wb, 0, none⟩)] 73 (0, 0))) :: k.res } (Nb.lines s1 ((E.bbl.map ciLine).take j))) (fun i _ => E.bbl.length - (RowKit.intOf i).toNat)
    case atStart => exact ⟨0, Nat.zero_le _, rfl, HX.out⟩
    case round =>
      obtain ⟨j, hj, rfl, hI⟩ := hrel
      have HI := Lib.hid hI
      by_cases hjt : j < E.bbl.length
      · have hi : (j : Int) < (E.bbl.length : Int) := by omega
        have hi0 : (0 : Int) ≤ (j : Int) := by omega
        have hrow2 := below_row HE.out.bb hI.bel hI.hB
        rw [HBV.out] at hrow2
        obtain ⟨_, _, _, hcx⟩ := hrow2.bounds
        obtain ⟨b, off, rfl, _, hcc⟩ := hcx j hjt
        have HT : Hid ((E.bbl.map ciLine).take (j + 1) = (E.bbl.map ciLine).take j ++ [ciLine E.bbl[j]]) := Lib.hid (by
          rw [List.take_succ_eq_append_getElem (by simpa using hjt), List.getElem_map])
        have HBDJ := Lib.hid ((HB1.out.lines ((E.bbl.map ciLine).take j) (by omega) (fun u hu => ciLine_len HE.out.ok u (List.mem_of_mem_take hu))).mono (show T + 2 + ((E.bbl.map ciLine).take j).length ≤ T + 300 by simp; omega))
        have c0 : wr.cell? ⟨b, off + j * 3, none⟩ = some (vs E.bbl[j].key) := hcc 0 _ rfl
        have c1 := hcc 1 _ rfl
        have c2 := hcc 2 _ rfl
        obtain ⟨hl1, hl2⟩ := HE.out.ok.bbt E.bbl[j] (List.getElem_mem hjt)
        generalize E.bbl[j] = ci at *
        have HROW := Lib.hid (row_any (hI.below ((Below.refl wr.heap.size wr).alloc (Nat.le_refl _) (.cells #[vs ci.key, vs ci.label, vs ci.text] 67))) (T + 300) (by omega) HBDJ.out w.heap.size (by simp) (ciLine ci))
        have o1 : (⟨#[91]⟩ : ByteArray) ++ bs ci.label = bs (91 :: ci.label) := by show bs [91] ++ _ = _; rw [bs_append]; rfl
        have o2 : bs (91 :: ci.label) ++ (⟨#[93, 32]⟩ : ByteArray) = bs (91 :: (ci.label ++ [93, 32])) := by show _ ++ bs [93, 32] = _; rw [bs_append]; rfl
        have o3 : bs (91 :: (ci.label ++ [93, 32])) ++ bs ci.text = bs (ciLine ci) := by rw [bs_append]; simp [ciLine]
        have l1 : (bs ci.label).size = ci.label.length := bs_size _
        have l2 : (bs (91 :: ci.label)).size = ci.label.length + 1 := by rw [bs_size]; rfl
        have l3 : (bs (91 :: (ci.label ++ [93, 32]))).size = ci.label.length + 3 := by rw [bs_size]; simp
        have l4 : (bs ci.text).size = ci.text.length := bs_size _
        have g1 : ¬ (9223372036854775807 < 1 + ci.label.length) := by omega
        have g2 : ¬ (9223372036854775807 < ci.label.length + 1 + 2) := by omega
        have g3 : ¬ (9223372036854775807 < ci.label.length + 3 + ci.text.length) := by omega
        clear hI hrow2 hcx hcc hjt
        go_wp2_with fail
        refine HROW.out.mono ?_
        rintro e w9 ⟨rfl, H9⟩
        have HK9 := Lib.hid H9
        clear H9
        go_wp2_with fail
        go_roundw
        case rel => exact ⟨j + 1, by omega, by go_num, by rw [HT.out, lines_snoc]; exact HK9.out⟩
        case measure => simp [RowKit.intOf]; omega
      · obtain rfl : j = E.bbl.length := by omega
        have hi : ¬ (E.bbl.length : Int) < (E.bbl.length : Int) := by omega
        have HEND := Lib.hid (show Is B w0 wr wb { k with res := (w.heap.size + 1, (.cells #[.int .i64 x.kind, vs x.s] 59 (0, 0))) :: (w.heap.size, (.cells #[.pointer (some ⟨wb, 0, none⟩)] 73 (0, 0))) :: k.res } (Nb.lines s1 (E.bbl.map ciLine)) by rw [← List.take_of_length_le (l := E.bbl.map ciLine) (i := E.bbl.length) (by simp)]; exact hI)
        clear hI
        go_wp2_with fail
        go_end0
        exact ⟨rfl, by rw [HR.out]; exact Is.free (k := k) (R := [(w.heap.size + 1, (.cells #[.int .i64 x.kind, vs x.s] 59 (0, 0))), (w.heap.size, (.cells #[.pointer (some ⟨wb, 0, none⟩)] 73 (0, 0)))]) HEND.out⟩
  · have hkb : (x.kind == 13) = false := by simp [h14]
    have hkc : (x.kind == 14) = true := by simp [h14]
    have HR : Hid (Nb.rows E s x = Nb.lines (Nb.close s) (E.heads.map hdLine)) := Lib.hid (by unfold Nb.rows; rw [if_neg (by omega), if_pos h14])
    clear h14
    go_enter Tryz.func32, Tryz.ntmps32
    go_wp2_with fail
    rw [← HW1.out]
    refine HCL.out.mono ?_
    rintro e WX ⟨rfl, H2⟩
    have HX := Lib.hid H2
    have zp : WX.cell? ⟨w.heap.size, 0, none⟩ = some (.pointer (some ⟨wb, 0, none⟩)) := by rw [Lib.cell_of_heap (H2.res (p := (w.heap.size, (.cells #[.pointer (some ⟨wb, 0, none⟩)] 73 (0, 0)))) (by simp))]; rfl
    have z0 : WX.cell? ⟨w.heap.size + 1, 0, none⟩ = some (.int .i64 x.kind) := by rw [Lib.cell_of_heap (H2.res (p := (w.heap.size + 1, (.cells #[.int .i64 x.kind, vs x.s] 59 (0, 0)))) (by simp))]; rfl
    have HB1 := Lib.hid (HBD.out.mono (show T ≤ T + 2 by omega))
    obtain ⟨s1, hs1⟩ : ∃ s1, s1 = Nb.close s := ⟨_, rfl⟩
    rw [← hs1] at HX HB1 HR
    clear H2 y0 hs1
    have hrow := below_row HE.out.hd HX.out.bel HX.out.hB
    obtain ⟨bA, bc, hbv, -⟩ := hrow.shape
    have z14 : WX.cell? ⟨wb, 11, none⟩ = some (.slice bA E.heads.length bc) := by rw [← hbv]; exact (HX.out.env).2.1
    have HBV := Lib.hid hbv
    have hbl := HE.out.ok.hd
    clear hrow hbv
    go_wp2_with fail
    go_loopw [74] (fun i wr => ∃ j : Nat, j ≤ E.heads.length ∧ i = .int .i64 j ∧ Is B w0 wr wb { k with res := (w.heap.size + 1, (.cells #[.int .i64 x.kind, vs x.s] 59 (0, 0))) :: (w.heap.size, (.cells #[.pointer (some ⟨wb, 0, none⟩)] 73 (0, 0))) :: k.res } (Nb.lines s1 ((E.heads.map hdLine).take j))) (fun i _ => E.heads.length - (RowKit.intOf i).toNat)
    case atStart => exact ⟨0, Nat.zero_le _, rfl, HX.out⟩
    case round =>
      obtain ⟨j, hj, rfl, hI⟩ := hrel
      have HI := Lib.hid hI
      by_cases hjt : j < E.heads.length
      · have hi : (j : Int) < (E.heads.length : Int) := by omega
        have hi0 : (0 : Int) ≤ (j : Int) := by omega
        have hrow2 := below_row HE.out.hd hI.bel hI.hB
        rw [HBV.out] at hrow2
        obtain ⟨_, _, _, hcx⟩ := hrow2.bounds
        obtain ⟨b, off, rfl, _, hcc⟩ := hcx j hjt
        have HT : Hid ((E.heads.map hdLine).take (j + 1) = (E.heads.map hdLine).take j ++ [hdLine E.heads[j]]) := Lib.hid (by
          rw [List.take_succ_eq_append_getElem (by simpa using hjt), List.getElem_map])
        have HBDJ := Lib.hid ((HB1.out.lines ((E.heads.map hdLine).take j) (by omega) (fun u hu => hdLine_len HE.out.ok u (List.mem_of_mem_take hu))).mono (show T + 2 + ((E.heads.map hdLine).take j).length ≤ T + 300 by simp; omega))
        have c0 : wr.cell? ⟨b, off + j * 4, none⟩ = some (.int .i64 E.heads[j].level) := hcc 0 _ rfl
        have c1 := hcc 1 _ rfl
        have c2 := hcc 2 _ rfl
        have c3 := hcc 3 _ rfl
        obtain ⟨hl1, hl2⟩ := HE.out.ok.hdt E.heads[j] (List.getElem_mem hjt)
        generalize E.heads[j] = hd at *
        have hdl := dig_len6 hd.page
        obtain ⟨W2, hW2⟩ : ∃ W2, W2 = wr.alloc (.cells #[.int .i64 hd.level, vs hd.num, vs hd.title, .int .i64 hd.page] 65) := ⟨_, rfl⟩
        have hbW : Below wr.heap.size wr W2 := by rw [hW2]; exact (Below.refl _ _).alloc (Nat.le_refl _) _
        have hnW : W2.heap[wr.heap.size]? = some (.cells #[.int .i64 hd.level, vs hd.num, vs hd.title, .int .i64 hd.page] 65) := by rw [hW2]; exact heap_alloc_new wr _
        have HWW := Lib.hid hW2
        have HBW := Lib.hid hbW
        have HNW := Lib.hid hnW
        obtain ⟨pre, hpre⟩ : ∃ p : Bs, p = if hd.level = 2 then [32, 32] else [] := ⟨_, rfl⟩
        have hprl : pre.length ≤ 2 := by rw [hpre]; split <;> simp
        have HLN : Hid (hdLine hd = pre ++ hd.num ++ 32 :: (hd.title ++ 32 :: dig hd.page)) := Lib.hid (by unfold hdLine; rw [hpre])
        have HPRE := Lib.hid hpre
        have e0 : W2.cell? ⟨wr.heap.size, 0, none⟩ = some (.int .i64 hd.level) := by rw [Lib.cell_of_heap hnW]; rfl
        rw [hW2] at e0
        clear hI hrow2 hcx hcc hjt hW2 hbW hnW hpre
        go_upto_if 80 with fail
        go_cut [9] from 78 to 80 (fun iv wx => iv = vs pre ∧ wx = W2)
        case first =>
          by_cases h2 : hd.level = 2
          · have h2b : (hd.level == 2) = true := by simp [h2]
            have HP2 : Hid (pre = [32, 32]) := Lib.hid (by rw [HPRE.out, if_pos h2])
            clear h2
            go_wp2_with fail
            go_meet
            exact ⟨by rw [HP2.out]; rfl, HWW.out.symm⟩
          · have h2b : (hd.level == 2) = false := by simp [h2]
            have HP2 : Hid (pre = []) := Lib.hid (by rw [HPRE.out, if_neg h2])
            clear h2
            go_wp2_with fail
            go_meet
            exact ⟨by rw [HP2.out]; rfl, HWW.out.symm⟩
        case rest =>
          obtain ⟨rfl, hwc⟩ := hcut
          obtain ⟨w3, hw3⟩ : ∃ w3, w3 = wc := ⟨_, rfl⟩
          subst hw3
          have hnW := HNW.out
          have hbW := HBW.out
          rw [← hwc] at hnW hbW
          have HN3 := Lib.hid hnW
          have HB3 := Lib.hid hbW
          have hS0 : (fun wz : World => wz.cell? ⟨wr.heap.size, 1, none⟩ = some (vs hd.num) ∧ wz.cell? ⟨wr.heap.size, 2, none⟩ = some (vs hd.title) ∧ wz.cell? ⟨wr.heap.size, 3, none⟩ = some (.int .i64 hd.page)) w3.drew := ⟨(Lib.cell_of_heap hnW 1).trans rfl, (Lib.cell_of_heap hnW 2).trans rfl, (Lib.cell_of_heap hnW 3).trans rfl⟩
          have HTX := Lib.hid (cnText_any hd.page w3.drew (HE.out.gl _ ((HI.out.below hbW).bel.trans (below_of_drewN 1))))
          obtain ⟨dg, hdg⟩ : ∃ d, d = dig hd.page := ⟨_, rfl⟩
          rw [← hdg] at HTX HLN hdl
          obtain ⟨T1, hT1⟩ : ∃ T, T = pre ++ hd.num := ⟨_, rfl⟩
          obtain ⟨T2, hT2⟩ : ∃ T, T = T1 ++ [32] := ⟨_, rfl⟩
          obtain ⟨T3, hT3⟩ : ∃ T, T = T2 ++ hd.title := ⟨_, rfl⟩
          obtain ⟨T4, hT4⟩ : ∃ T, T = T3 ++ [32] := ⟨_, rfl⟩
          obtain ⟨T5, hT5⟩ : ∃ T, T = T4 ++ dg := ⟨_, rfl⟩
          have o1 : bs pre ++ bs hd.num = bs T1 := by rw [hT1, bs_append]
          have o2 : bs T1 ++ (⟨#[32]⟩ : ByteArray) = bs T2 := by show _ ++ bs [32] = _; rw [hT2, bs_append]
          have o3 : bs T2 ++ bs hd.title = bs T3 := by rw [hT3, bs_append]
          have o4 : bs T3 ++ (⟨#[32]⟩ : ByteArray) = bs T4 := by show _ ++ bs [32] = _; rw [hT4, bs_append]
          have o5 : bs T4 ++ bs dg = bs T5 := by rw [hT5, bs_append]
          have HT5 : Hid (T5 = hdLine hd) := Lib.hid (by rw [HLN.out, hT5, hT4, hT3, hT2, hT1]; simp)
          have l0 : (bs pre).size = pre.length := bs_size _
          have l1 : (bs hd.num).size = hd.num.length := bs_size _
          have l4 : (bs hd.title).size = hd.title.length := bs_size _
          have l7 : (bs dg).size = dg.length := bs_size _
          obtain ⟨m1, hm1⟩ : ∃ m, m = pre.length + hd.num.length := ⟨_, rfl⟩
          obtain ⟨m3, hm3⟩ : ∃ m, m = m1 + 1 + hd.title.length := ⟨_, rfl⟩
          have l2 : (bs T1).size = m1 := by rw [bs_size, hT1, hm1]; simp
          have l3 : (bs T2).size = m1 + 1 := by rw [bs_size, hT2, hT1, hm1]; simp; omega
          have l5 : (bs T3).size = m3 := by rw [bs_size, hT3, hT2, hT1, hm3, hm1]; simp; omega
          have l6 : (bs T4).size = m3 + 1 := by rw [bs_size, hT4, hT3, hT2, hT1, hm3, hm1]; simp; omega
          have g1 : ¬ (9223372036854775807 < pre.length + hd.num.length) := by omega
          have g2 : ¬ (9223372036854775807 < m1 + 1) := by omega
          have g3 : ¬ (9223372036854775807 < m1 + 1 + hd.title.length) := by omega
          have g4 : ¬ (9223372036854775807 < m3 + 1) := by omega
          have g5 : ¬ (9223372036854775807 < m3 + 1 + dg.length) := by omega
          clear hT1 hT2 hT3 hT4 hT5 hm1 hm3
          clear hwc hdg hnW hbW c0 c1 c2 c3 e0
          go_upto_region 23 with fail
          refine wp_region_headS 15 (fun wz : World => wz.cell? ⟨wr.heap.size, 1, none⟩ = some (vs hd.num) ∧ wz.cell? ⟨wr.heap.size, 2, none⟩ = some (vs hd.title) ∧ wz.cell? ⟨wr.heap.size, 3, none⟩ = some (.int .i64 hd.page)) (by kernel_rfl) (by kernel_rfl) ?_
          refine WS_take (i := 0) (v := ?vh0) (by simp only [List.getElem?_toArray, List.getElem?_cons_zero]; rfl) (by decide) (by kernel_rfl) (by kernel_rfl) (by intro _ _ _ h; exact h) (Or.inl ⟨by rfl, ?hyh0⟩) hS0 ?resth0
          case hyh0 =>
            intro wx hx
            obtain ⟨s1, s2, s3⟩ := hx
            go_simp
            try with_reducible rfl
          try simp only [Act.put, List.setIfInBounds_toArray, List.set_cons_zero, List.set_cons_succ]
          refine WS_take (i := 1) (v := ?vh1) (by simp only [List.getElem?_toArray, List.getElem?_cons_succ, List.getElem?_cons_zero]; rfl) (by decide) (by kernel_rfl) (by kernel_rfl) (by intro _ _ _ h; exact h) (Or.inl ⟨by rfl, ?hyh1⟩) hS0 ?resth1
          case hyh1 =>
            intro wx hx
            obtain ⟨s1, s2, s3⟩ := hx
            go_simp
            try with_reducible rfl
          try simp only [Act.put, List.setIfInBounds_toArray, List.set_cons_zero, List.set_cons_succ]
          refine WS_take (i := 2) (v := ?vh2) (by simp only [List.getElem?_toArray, List.getElem?_cons_succ, List.getElem?_cons_zero]; rfl) (by decide) (by kernel_rfl) (by kernel_rfl) (by intro _ _ _ h; exact h) (Or.inl ⟨by rfl, ?hyh2⟩) hS0 ?resth2
          case hyh2 =>
            intro wx hx
            obtain ⟨s1, s2, s3⟩ := hx
            go_simp
            try with_reducible rfl
          try simp only [Act.put, List.setIfInBounds_toArray, List.set_cons_zero, List.set_cons_succ]
          refine WS_take (i := 3) (v := ?vh3) (by simp only [List.getElem?_toArray, List.getElem?_cons_succ, List.getElem?_cons_zero]; rfl) (by decide) (by kernel_rfl) (by kernel_rfl) (by intro _ _ _ h; exact h) (Or.inl ⟨by rfl, ?hyh3⟩) hS0 ?resth3
          case hyh3 =>
            intro wx hx
            obtain ⟨s1, s2, s3⟩ := hx
            go_simp
            try with_reducible rfl
          try simp only [Act.put, List.setIfInBounds_toArray, List.set_cons_zero, List.set_cons_succ]
          refine WS_take (i := 4) (v := ?vh4) (by simp only [List.getElem?_toArray, List.getElem?_cons_succ, List.getElem?_cons_zero]; rfl) (by decide) (by kernel_rfl) (by kernel_rfl) (by intro _ _ _ h; exact h) (Or.inl ⟨by rfl, ?hyh4⟩) hS0 ?resth4
          case hyh4 =>
            intro wx hx
            obtain ⟨s1, s2, s3⟩ := hx
            go_simp
            try with_reducible rfl
          try simp only [Act.put, List.setIfInBounds_toArray, List.set_cons_zero, List.set_cons_succ]
          refine WS_take (i := 5) (v := ?vh5) (by simp only [List.getElem?_toArray, List.getElem?_cons_succ, List.getElem?_cons_zero]; rfl) (by decide) (by kernel_rfl) (by kernel_rfl) (by intro _ _ _ h; exact h) (Or.inl ⟨by rfl, ?hyh5⟩) hS0 ?resth5
          case hyh5 =>
            intro wx hx
            obtain ⟨s1, s2, s3⟩ := hx
            go_simp
            try with_reducible rfl
          try simp only [Act.put, List.setIfInBounds_toArray, List.set_cons_zero, List.set_cons_succ]
          refine WS_take (i := 6) (v := ?vh6) (by simp only [List.getElem?_toArray, List.getElem?_cons_succ, List.getElem?_cons_zero]; rfl) (by decide) (by kernel_rfl) (by kernel_rfl) (by intro _ _ _ h; exact h) (Or.inl ⟨by rfl, ?hyh6⟩) hS0 ?resth6
          case hyh6 =>
            intro wx hx
            obtain ⟨s1, s2, s3⟩ := hx
            go_simp
            try with_reducible rfl
          try simp only [Act.put, List.setIfInBounds_toArray, List.set_cons_zero, List.set_cons_succ]
          refine WS_take (i := 7) (v := ?vh7) (by simp only [List.getElem?_toArray, List.getElem?_cons_succ, List.getElem?_cons_zero]; rfl) (by decide) (by kernel_rfl) (by kernel_rfl) (by intro _ _ _ h; exact h) (Or.inl ⟨by rfl, ?hyh7⟩) hS0 ?resth7
          case hyh7 =>
            intro wx hx
            obtain ⟨s1, s2, s3⟩ := hx
            go_simp
            try with_reducible rfl
          try simp only [Act.put, List.setIfInBounds_toArray, List.set_cons_zero, List.set_cons_succ]
          refine WS_take (i := 8) (v := ?vh8) (by simp only [List.getElem?_toArray, List.getElem?_cons_succ, List.getElem?_cons_zero]; rfl) (by decide) (by kernel_rfl) (by kernel_rfl) (by intro _ _ _ h; exact h) (Or.inl ⟨by rfl, ?hyh8⟩) hS0 ?resth8
          case hyh8 =>
            intro wx hx
            obtain ⟨s1, s2, s3⟩ := hx
            go_simp
            try with_reducible rfl
          try simp only [Act.put, List.setIfInBounds_toArray, List.set_cons_zero, List.set_cons_succ]
          refine WS_take (i := 9) (v := ?vh9) (by simp only [List.getElem?_toArray, List.getElem?_cons_succ, List.getElem?_cons_zero]; rfl) (by decide) (by kernel_rfl) (by kernel_rfl) (by intro _ _ _ h; exact h) (Or.inl ⟨by rfl, ?hyh9⟩) hS0 ?resth9
          case hyh9 =>
            intro wx hx
            obtain ⟨s1, s2, s3⟩ := hx
            go_simp
            try with_reducible rfl
          try simp only [Act.put, List.setIfInBounds_toArray, List.set_cons_zero, List.set_cons_succ]
          refine WS_take (i := 10) (v := ?vh10) (by simp only [List.getElem?_toArray, List.getElem?_cons_succ, List.getElem?_cons_zero]; rfl) (by decide) (by kernel_rfl) (by kernel_rfl) (by intro _ _ _ h; exact h) (Or.inl ⟨by rfl, ?hyh10⟩) hS0 ?resth10
          case hyh10 =>
            intro wx hx
            obtain ⟨s1, s2, s3⟩ := hx
            go_simp
            try with_reducible rfl
          try simp only [Act.put, List.setIfInBounds_toArray, List.set_cons_zero, List.set_cons_succ]
          refine WS_take (i := 11) (v := ?vh11) (by simp only [List.getElem?_toArray, List.getElem?_cons_succ, List.getElem?_cons_zero]; rfl) (by decide) (by kernel_rfl) (by kernel_rfl) (by intro _ _ _ h; exact h) (Or.inl ⟨by rfl, ?hyh11⟩) hS0 ?resth11
          case hyh11 =>
            intro wx hx
            obtain ⟨s1, s2, s3⟩ := hx
            go_simp
            try with_reducible rfl
          try simp only [Act.put, List.setIfInBounds_toArray, List.set_cons_zero, List.set_cons_succ]
          refine WS_take (i := 12) (v := ?vh12) (by simp only [List.getElem?_toArray, List.getElem?_cons_succ, List.getElem?_cons_zero]; rfl) (by decide) (by kernel_rfl) (by kernel_rfl) (by intro _ _ _ h; exact h) (Or.inl ⟨by rfl, ?hyh12⟩) hS0 ?resth12
          case hyh12 =>
            intro wx hx
            obtain ⟨s1, s2, s3⟩ := hx
            go_simp
            try with_reducible rfl
          try simp only [Act.put, List.setIfInBounds_toArray, List.set_cons_zero, List.set_cons_succ]
          refine WS_one (i := 13) (by simp only [List.getElem?_toArray, List.getElem?_cons_succ, List.getElem?_cons_zero]; rfl) (by decide) (by kernel_rfl) (fun K hK => (if_pos (by kernel_rfl)).mpr ?_)
          go_simp
          refine HTX.out.mono ?_
          rintro e w5 ⟨rfl, b5⟩
          dsimp only
          have HB5 := Lib.hid (HB3.out.trans (((Below.refl w3.heap.size w3).drew.trans b5).mono HB3.out.size))
          have hN5 := (((Below.refl w3.heap.size w3).drew.trans b5).block wr.heap.size (lt_of_block HN3.out)).trans HN3.out
          have hS5 : (fun wz : World => wz.cell? ⟨wr.heap.size, 1, none⟩ = some (vs hd.num) ∧ wz.cell? ⟨wr.heap.size, 2, none⟩ = some (vs hd.title) ∧ wz.cell? ⟨wr.heap.size, 3, none⟩ = some (.int .i64 hd.page)) w5 := ⟨(Lib.cell_of_heap hN5 1).trans rfl, (Lib.cell_of_heap hN5 2).trans rfl, (Lib.cell_of_heap hN5 3).trans rfl⟩
          have HROW := Lib.hid (row_any (HI.out.below HB5.out) (T + 300) (by omega) HBDJ.out w.heap.size (by simp) T5)
          refine hK _ _ hS5 ?_
          clear hK K b5 hN5 hS0
          try simp only [Act.put, List.setIfInBounds_toArray, List.set_cons_zero, List.set_cons_succ]
          refine WS_take (i := 14) (v := ?vi14) (by simp only [List.getElem?_toArray, List.getElem?_cons_succ, List.getElem?_cons_zero]; rfl) (by decide) (by kernel_rfl) (by kernel_rfl) (by intro _ _ _ h; exact h) (Or.inl ⟨by rfl, ?hyi14⟩) hS5 ?resti14
          case hyi14 =>
            intro wx hx
            obtain ⟨s1, s2, s3⟩ := hx
            go_simp
            try with_reducible rfl
          try simp only [Act.put, List.setIfInBounds_toArray, List.set_cons_zero, List.set_cons_succ]
          refine WS_done (by kernel_rfl) ?_
          simp only [List.drop_succ_cons, List.drop_zero]
          clear hS5
          go_wp2_with fail
          refine HROW.out.mono ?_
          rintro e w9 ⟨rfl, H9⟩
          have HK9 := Lib.hid H9
          clear H9
          go_wp2_with fail
          go_roundw
          case rel => exact ⟨j + 1, by omega, by go_num, by rw [HT.out, lines_snoc, ← HT5.out]; exact HK9.out⟩
          case measure => simp [RowKit.intOf]; omega
      · obtain rfl : j = E.heads.length := by omega
        have hi : ¬ (E.heads.length : Int) < (E.heads.length : Int) := by omega
        have HEND := Lib.hid (show Is B w0 wr wb { k with res := (w.heap.size + 1, (.cells #[.int .i64 x.kind, vs x.s] 59 (0, 0))) :: (w.heap.size, (.cells #[.pointer (some ⟨wb, 0, none⟩)] 73 (0, 0))) :: k.res } (Nb.lines s1 (E.heads.map hdLine)) by rw [← List.take_of_length_le (l := E.heads.map hdLine) (i := E.heads.length) (by simp)]; exact hI)
        clear hI
        go_wp2_with fail
        go_end0
        exact ⟨rfl, by rw [HR.out]; exact Is.free (k := k) (R := [(w.heap.size + 1, (.cells #[.int .i64 x.kind, vs x.s] 59 (0, 0))), (w.heap.size, (.cells #[.pointer (some ⟨wb, 0, none⟩)] 73 (0, 0)))]) HEND.out⟩
  · have hkb : (x.kind == 13) = false := by simp [h15]
    have hkc : (x.kind == 14) = false := by simp [h15]
    have HR : Hid (Nb.rows E s x = Nb.lines (Nb.close s) (E.ind.map id)) := Lib.hid (by unfold Nb.rows; rw [if_neg (by omega), if_neg (by omega), List.map_id])
    clear h15
    go_enter Tryz.func32, Tryz.ntmps32
    go_wp2_with fail
    rw [← HW1.out]
    refine HCL.out.mono ?_
    rintro e WX ⟨rfl, H2⟩
    have HX := Lib.hid H2
    have zp : WX.cell? ⟨w.heap.size, 0, none⟩ = some (.pointer (some ⟨wb, 0, none⟩)) := by rw [Lib.cell_of_heap (H2.res (p := (w.heap.size, (.cells #[.pointer (some ⟨wb, 0, none⟩)] 73 (0, 0)))) (by simp))]; rfl
    have z0 : WX.cell? ⟨w.heap.size + 1, 0, none⟩ = some (.int .i64 x.kind) := by rw [Lib.cell_of_heap (H2.res (p := (w.heap.size + 1, (.cells #[.int .i64 x.kind, vs x.s] 59 (0, 0)))) (by simp))]; rfl
    have HB1 := Lib.hid (HBD.out.mono (show T ≤ T + 2 by omega))
    obtain ⟨s1, hs1⟩ : ∃ s1, s1 = Nb.close s := ⟨_, rfl⟩
    rw [← hs1] at HX HB1 HR
    clear H2 y0 hs1
    have hrow := below_row HE.out.ind HX.out.bel HX.out.hB
    obtain ⟨bA, bc, hbv, -⟩ := hrow.shape
    have z14 : WX.cell? ⟨wb, 15, none⟩ = some (.slice bA E.ind.length bc) := by rw [← hbv]; exact (HX.out.env).2.2.2.2.2
    have HBV := Lib.hid hbv
    have hbl := HE.out.ok.ind
    clear hrow hbv
    go_wp2_with fail
    go_loopw [22] (fun i wr => ∃ j : Nat, j ≤ E.ind.length ∧ i = .int .i64 j ∧ Is B w0 wr wb { k with res := (w.heap.size + 1, (.cells #[.int .i64 x.kind, vs x.s] 59 (0, 0))) :: (w.heap.size, (.cells #[.pointer (some ⟨wb, 0, none⟩)] 73 (0, 0))) :: k.res } (Nb.lines s1 ((E.ind.map id).take j))) (fun i _ => E.ind.length - (RowKit.intOf i).toNat)
    case atStart => exact ⟨0, Nat.zero_le _, rfl, HX.out⟩
    case round =>
      obtain ⟨j, hj, rfl, hI⟩ := hrel
      have HI := Lib.hid hI
      by_cases hjt : j < E.ind.length
      · have hi : (j : Int) < (E.ind.length : Int) := by omega
        have hi0 : (0 : Int) ≤ (j : Int) := by omega
        have hrow2 := below_row HE.out.ind hI.bel hI.hB
        rw [HBV.out] at hrow2
        obtain ⟨_, _, _, hcx⟩ := hrow2.bounds
        obtain ⟨b, off, rfl, _, hcc⟩ := hcx j hjt
        have HT : Hid ((E.ind.map id).take (j + 1) = (E.ind.map id).take j ++ [id E.ind[j]]) := Lib.hid (by
          rw [List.take_succ_eq_append_getElem (by simpa using hjt), List.getElem_map])
        have HBDJ := Lib.hid ((HB1.out.lines ((E.ind.map id).take j) (by omega) (fun u hu => (fun u hu => by rw [List.map_id] at hu; have := HE.out.ok.indt u hu; omega : ∀ u ∈ E.ind.map id, u.length ≤ 600) u (List.mem_of_mem_take hu))).mono (show T + 2 + ((E.ind.map id).take j).length ≤ T + 300 by simp; omega))
        have c0 := hcc 0 _ rfl
        simp only [Nat.mul_one, Nat.add_zero] at c0
        have HROW := Lib.hid (row_any hI (T + 300) (by omega) HBDJ.out w.heap.size (by simp) E.ind[j])
        have HT' : Hid ((E.ind.map id).take (j + 1) = (E.ind.map id).take j ++ [E.ind[j]]) := HT
        generalize E.ind[j] = tx at *
        have HT := HT'
        clear hI hrow2 hcx hcc hjt HT'
        go_wp2_with fail
        refine HROW.out.mono ?_
        rintro e w9 ⟨rfl, H9⟩
        have HK9 := Lib.hid H9
        clear H9
        go_wp2_with fail
        go_roundw
        case rel => exact ⟨j + 1, by omega, by go_num, by rw [HT.out, lines_snoc]; exact HK9.out⟩
        case measure => simp [RowKit.intOf]; omega
      · obtain rfl : j = E.ind.length := by omega
        have hi : ¬ (E.ind.length : Int) < (E.ind.length : Int) := by omega
        have HEND := Lib.hid (show Is B w0 wr wb { k with res := (w.heap.size + 1, (.cells #[.int .i64 x.kind, vs x.s] 59 (0, 0))) :: (w.heap.size, (.cells #[.pointer (some ⟨wb, 0, none⟩)] 73 (0, 0))) :: k.res } (Nb.lines s1 (E.ind.map id)) by rw [← List.take_of_length_le (l := E.ind.map id) (i := E.ind.length) (by simp)]; exact hI)
        clear hI
        go_wp2_with fail
        go_end0
        exact ⟨rfl, by rw [HR.out]; exact Is.free (k := k) (R := [(w.heap.size + 1, (.cells #[.int .i64 x.kind, vs x.s] 59 (0, 0))), (w.heap.size, (.cells #[.pointer (some ⟨wb, 0, none⟩)] 73 (0, 0)))]) HEND.out⟩
end
end Go.Proofs.YtjmmfihmamcopaaGreatDoor
