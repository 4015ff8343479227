/- number: one. -/
import Derived.Test.YtjmmfihmamcopaaGreatDoorNbR
namespace Go.Proofs.YtjmmfihmamcopaaGreatDoor
open Go.RowKit Tx Nb

section
variable {B wb : Nat} {w0 w : World} {k : Cst} {s : St}
theorem EnvIs.res {E : Env} {R : List (Nat × Obj)} (h : EnvIs B w0 k E) : EnvIs B w0 { k with res := R } E := ⟨h.lb, h.hd, h.bb, h.ind, h.ok, h.gl⟩
set_option maxRecDepth 100000 in
set_option maxHeartbeats 32000000 in
theorem one_any {E : Env} (h : Is B w0 w wb k s) (hi : Inv s) (T : Nat) (hT : T ≤ 800000) (hT6 : 600 ≤ T) (hd : Bd s T) (hE : EnvIs B w0 k E) (x : It) (hx : x.s.length ≤ 100) :
    Calls Tryz.prog 22 #[.pointer (some ⟨wb, 0, none⟩), .agg #[.int .i64 x.kind, vs x.s]] w fun e' w' => e' = .returned (.tuple #[]) ∧ Is B w0 w' wb k (Nb.one E s x) := by
  obtain ⟨kd, t⟩ := x
  simp only at hx ⊢
  obtain ⟨w1, hw1⟩ : ∃ w1, w1 = w.alloc (.cells #[.int .i64 kd, vs t] 59) := ⟨_, rfl⟩
  have hb1 : Below w.heap.size w w1 := by rw [hw1]; exact (Below.refl _ _).alloc (Nat.le_refl _) _
  have hnew : w1.heap[w.heap.size]? = some (.cells #[.int .i64 kd, vs t] 59 (0, 0)) := by rw [hw1]; exact heap_alloc_new w _
  have hk := h.keep hb1 w.heap.size _ (Nat.le_refl _) hnew
  have HK1 := Lib.hid hk
  have HW1 := Lib.hid hw1
  have HE := Lib.hid hE
  have HE1 := Lib.hid (hE.res (R := (w.heap.size, (.cells #[.int .i64 kd, vs t] 59 (0, 0))) :: k.res))
  have HI := Lib.hid hi
  have HBD := Lib.hid hd
  have hmf : ∀ (fn : Fn) (first cap : Array Value) (w : World), (Instr.makeFunc fn first cap).run Tryz.prog w = .ok (.func fn first cap) w := fun _ _ _ _ => rfl
  clear h hd hi hE hb1 hnew hk hw1
  have HG := HE.out.gl
  by_cases h1 : kd = 1
  · subst h1
    have HR : Hid (Nb.one E s ⟨1, t⟩ = Nb.say s t) := Lib.hid rfl
    clear HG
    go_enter Tryz.func22, Tryz.ntmps22
    go_wp2_with fail
    rw [← HW1.out]
    refine (say_any HK1.out HI.out T (by omega) HBD.out t (by omega)).mono ?_
    rintro e w9 ⟨rfl, H9⟩
    have HK9 := Lib.hid H9
    clear H9
    go_wp2_with fail
    go_end0
    exact ⟨rfl, by rw [HR.out]; exact Is.free (k := k) (R := [(w.heap.size, (.cells #[.int .i64 1, vs t] 59 (0, 0)))]) HK9.out⟩
  by_cases h2 : kd = 2
  · subst h2
    have HR : Hid (Nb.one E s ⟨2, t⟩ = { s with c := { s.c with op := false } }) := Lib.hid rfl
    have f17 := HK1.out.cells.2 17
    have y17 := HK1.out.cells.1.2.1
    rw [HW1.out] at f17 y17
    clear HG
    go_enter Tryz.func22, Tryz.ntmps22
    go_wp2_with fail
    go_end0
    rw [← HW1.out]
    have HK9 := Lib.hid (HK1.out.op false)
    exact ⟨rfl, by rw [HR.out]; exact Is.free (k := k) (R := [(w.heap.size, (.cells #[.int .i64 2, vs t] 59 (0, 0)))]) HK9.out⟩
  by_cases h4 : kd = 4
  · subst h4
    have HR : Hid (Nb.one E s ⟨4, t⟩ = Nb.head s ⟨4, t⟩) := Lib.hid rfl
    clear HG
    go_enter Tryz.func22, Tryz.ntmps22
    go_wp2_with fail
    rw [← HW1.out]
    refine (head_any HK1.out T (by omega) HBD.out HE.out.gl ⟨4, t⟩ hx).mono ?_
    rintro e w9 ⟨rfl, H9⟩
    have HK9 := Lib.hid H9
    clear H9
    go_wp2_with fail
    go_end0
    exact ⟨rfl, by rw [HR.out]; exact Is.free (k := k) (R := [(w.heap.size, (.cells #[.int .i64 4, vs t] 59 (0, 0)))]) HK9.out⟩
  by_cases h5 : kd = 5
  · subst h5
    have HR : Hid (Nb.one E s ⟨5, t⟩ = Nb.head s ⟨5, t⟩) := Lib.hid rfl
    clear HG
    go_enter Tryz.func22, Tryz.ntmps22
    go_wp2_with fail
    rw [← HW1.out]
    refine (head_any HK1.out T (by omega) HBD.out HE.out.gl ⟨5, t⟩ hx).mono ?_
    rintro e w9 ⟨rfl, H9⟩
    have HK9 := Lib.hid H9
    clear H9
    go_wp2_with fail
    go_end0
    exact ⟨rfl, by rw [HR.out]; exact Is.free (k := k) (R := [(w.heap.size, (.cells #[.int .i64 5, vs t] 59 (0, 0)))]) HK9.out⟩
  by_cases h6 : kd = 6
  · subst h6
    have HR : Hid (Nb.one E s ⟨6, t⟩ = Nb.label s t) := Lib.hid rfl
    clear HG
    go_enter Tryz.func22, Tryz.ntmps22
    go_wp2_with fail
    rw [← HW1.out]
    refine (label_any HK1.out T (by omega) HBD.out t).mono ?_
    rintro e w9 ⟨rfl, H9⟩
    have HK9 := Lib.hid H9
    clear H9
    go_wp2_with fail
    go_end0
    exact ⟨rfl, by rw [HR.out]; exact Is.free (k := k) (R := [(w.heap.size, (.cells #[.int .i64 6, vs t] 59 (0, 0)))]) HK9.out⟩
  by_cases h7 : kd = 7
  · subst h7
    have HR : Hid (Nb.one E s ⟨7, t⟩ = Nb.refer E s ⟨7, t⟩) := Lib.hid rfl
    clear HG
    go_enter Tryz.func22, Tryz.ntmps22
    go_wp2_with fail
    rw [← HW1.out]
    refine (refer_any HK1.out HI.out T (by omega) HBD.out HE1.out ⟨7, t⟩).mono ?_
    rintro e w9 ⟨rfl, H9⟩
    have HK9 := Lib.hid H9
    clear H9
    go_wp2_with fail
    go_end0
    exact ⟨rfl, by rw [HR.out]; exact Is.free (k := k) (R := [(w.heap.size, (.cells #[.int .i64 7, vs t] 59 (0, 0)))]) HK9.out⟩
  by_cases h8 : kd = 8
  · subst h8
    have HR : Hid (Nb.one E s ⟨8, t⟩ = Nb.refer E s ⟨8, t⟩) := Lib.hid rfl
    clear HG
    go_enter Tryz.func22, Tryz.ntmps22
    go_wp2_with fail
    rw [← HW1.out]
    refine (refer_any HK1.out HI.out T (by omega) HBD.out HE1.out ⟨8, t⟩).mono ?_
    rintro e w9 ⟨rfl, H9⟩
    have HK9 := Lib.hid H9
    clear H9
    go_wp2_with fail
    go_end0
    exact ⟨rfl, by rw [HR.out]; exact Is.free (k := k) (R := [(w.heap.size, (.cells #[.int .i64 8, vs t] 59 (0, 0)))]) HK9.out⟩
  by_cases h9 : kd = 9
  · subst h9
    have HR : Hid (Nb.one E s ⟨9, t⟩ = Nb.cite E s t) := Lib.hid rfl
    clear HG
    go_enter Tryz.func22, Tryz.ntmps22
    go_wp2_with fail
    rw [← HW1.out]
    refine (cite_any HK1.out HI.out T (by omega) HBD.out HE1.out t).mono ?_
    rintro e w9 ⟨rfl, H9⟩
    have HK9 := Lib.hid H9
    clear H9
    go_wp2_with fail
    go_end0
    exact ⟨rfl, by rw [HR.out]; exact Is.free (k := k) (R := [(w.heap.size, (.cells #[.int .i64 9, vs t] 59 (0, 0)))]) HK9.out⟩
  by_cases h10 : kd = 10
  · subst h10
    have HR : Hid (Nb.one E s ⟨10, t⟩ = Nb.indexT s t) := Lib.hid rfl
    clear HG
    go_enter Tryz.func22, Tryz.ntmps22
    go_wp2_with fail
    rw [← HW1.out]
    refine (index_any HK1.out T (by omega) HBD.out t).mono ?_
    rintro e w9 ⟨rfl, H9⟩
    have HK9 := Lib.hid H9
    clear H9
    go_wp2_with fail
    go_end0
    exact ⟨rfl, by rw [HR.out]; exact Is.free (k := k) (R := [(w.heap.size, (.cells #[.int .i64 10, vs t] 59 (0, 0)))]) HK9.out⟩
  by_cases h11 : kd = 11
  · subst h11
    have HR : Hid (Nb.one E s ⟨11, t⟩ = Nb.step s t) := Lib.hid rfl
    clear HG
    go_enter Tryz.func22, Tryz.ntmps22
    go_wp2_with fail
    rw [← HW1.out]
    refine (step_any HK1.out T (by omega) HBD.out HE.out.gl t (by omega)).mono ?_
    rintro e w9 ⟨rfl, H9⟩
    have HK9 := Lib.hid H9
    clear H9
    go_wp2_with fail
    go_end0
    exact ⟨rfl, by rw [HR.out]; exact Is.free (k := k) (R := [(w.heap.size, (.cells #[.int .i64 11, vs t] 59 (0, 0)))]) HK9.out⟩
  by_cases h12 : kd = 12
  · subst h12
    have HR : Hid (Nb.one E s ⟨12, t⟩ = Nb.say s (dig ((cnGet s.own t).getD 0 : Nat))) := Lib.hid rfl
    obtain ⟨m, hm⟩ : ∃ m, m = (cnGet s.own t).getD 0 := ⟨_, rfl⟩
    rw [← hm] at HR
    have hdl := dig_len6 (m : Int)
    have HSx := Lib.hid (fun (wx : World) (hb : Below w1.heap.size w1 wx) => (⟨(HK1.out.below hb).cells.1.2.2.2.2.2.1, by rw [Lib.cell_of_heap ((HK1.out.below hb).res (p := (w.heap.size, (.cells #[.int .i64 12, vs t] 59 (0, 0)))) (by simp))]; rfl, by rw [hm]; exact (HK1.out.below hb).look false t (by omega)⟩ : (fun wz : World => wz.cell? ⟨wb, 21, none⟩ = some (.map (some k.mb)) ∧ wz.cell? ⟨w.heap.size, 1, none⟩ = some (vs t) ∧ (Instr.lookup 74 (.map (some k.mb)) (.string (bs t)) false).run Tryz.prog wz = .ok (.agg #[.int .i64 m]) wz) wx))
    clear hm HG
    go_enter Tryz.func22, Tryz.ntmps22
    go_upto_region 27 with fail
    rw [← HW1.out]
    have hS0 := HSx.out w1.drew (Below.refl w1.heap.size w1).drew
    have HTX := Lib.hid (cnText_any (m : Int) w1.drew (HE.out.gl _ (HK1.out.bel.trans (below_of_drewN 1))))
    refine wp_region_headS 9 (fun wz : World => wz.cell? ⟨wb, 21, none⟩ = some (.map (some k.mb)) ∧ wz.cell? ⟨w.heap.size, 1, none⟩ = some (vs t) ∧ (Instr.lookup 74 (.map (some k.mb)) (.string (bs t)) false).run Tryz.prog wz = .ok (.agg #[.int .i64 m]) wz) (by kernel_rfl) (by kernel_rfl) ?_
    refine WS_take (i := 0) (v := ?va0) (by simp only [List.getElem?_toArray, List.getElem?_cons_zero]; rfl) (by decide) (by kernel_rfl) (by kernel_rfl) (by intro _ _ _ h; exact h) (Or.inl ⟨by rfl, ?hya0⟩) hS0 ?resta0
    case hya0 =>
      intro wx hx
      obtain ⟨s1, s2, s3⟩ := hx
      go_simp
      try with_reducible rfl
    try simp only [Act.put, List.setIfInBounds_toArray, List.set_cons_zero, List.set_cons_succ]
    refine WS_take (i := 1) (v := ?va1) (by simp only [List.getElem?_toArray, List.getElem?_cons_succ, List.getElem?_cons_zero]; rfl) (by decide) (by kernel_rfl) (by kernel_rfl) (by intro _ _ _ h; exact h) (Or.inl ⟨by rfl, ?hya1⟩) hS0 ?resta1
    case hya1 =>
      intro wx hx
      obtain ⟨s1, s2, s3⟩ := hx
      go_simp
      try with_reducible rfl
    try simp only [Act.put, List.setIfInBounds_toArray, List.set_cons_zero, List.set_cons_succ]
    refine WS_take (i := 2) (v := ?va2) (by simp only [List.getElem?_toArray, List.getElem?_cons_succ, List.getElem?_cons_zero]; rfl) (by decide) (by kernel_rfl) (by kernel_rfl) (by intro _ _ _ h; exact h) (Or.inl ⟨by rfl, ?hya2⟩) hS0 ?resta2
    case hya2 =>
      intro wx hx
      obtain ⟨s1, s2, s3⟩ := hx
      go_simp
      try with_reducible rfl
    try simp only [Act.put, List.setIfInBounds_toArray, List.set_cons_zero, List.set_cons_succ]
    refine WS_take (i := 3) (v := ?va3) (by simp only [List.getElem?_toArray, List.getElem?_cons_succ, List.getElem?_cons_zero]; rfl) (by decide) (by kernel_rfl) (by kernel_rfl) (by intro _ _ _ h; exact h) (Or.inl ⟨by rfl, ?hya3⟩) hS0 ?resta3
    case hya3 =>
      intro wx hx
      obtain ⟨s1, s2, s3⟩ := hx
      go_simp
      try with_reducible rfl
    try simp only [Act.put, List.setIfInBounds_toArray, List.set_cons_zero, List.set_cons_succ]
    refine WS_take (i := 4) (v := ?va4) (by simp only [List.getElem?_toArray, List.getElem?_cons_succ, List.getElem?_cons_zero]; rfl) (by decide) (by kernel_rfl) (by kernel_rfl) (by intro _ _ _ h; exact h) (Or.inl ⟨by rfl, ?hya4⟩) hS0 ?resta4
    case hya4 =>
      intro wx hx
      obtain ⟨s1, s2, s3⟩ := hx
      go_simp
      try with_reducible rfl
    try simp only [Act.put, List.setIfInBounds_toArray, List.set_cons_zero, List.set_cons_succ]
    refine WS_take (i := 5) (v := ?va5) (by simp only [List.getElem?_toArray, List.getElem?_cons_succ, List.getElem?_cons_zero]; rfl) (by decide) (by kernel_rfl) (by kernel_rfl) (by intro _ _ _ h; exact h) (Or.inl ⟨by rfl, ?hya5⟩) hS0 ?resta5
    case hya5 =>
      intro wx hx
      obtain ⟨s1, s2, s3⟩ := hx
      go_simp
      try with_reducible rfl
    try simp only [Act.put, List.setIfInBounds_toArray, List.set_cons_zero, List.set_cons_succ]
    refine WS_take (i := 6) (v := ?va6) (by simp only [List.getElem?_toArray, List.getElem?_cons_succ, List.getElem?_cons_zero]; rfl) (by decide) (by kernel_rfl) (by kernel_rfl) (by intro _ _ _ h; exact h) (Or.inl ⟨by rfl, ?hya6⟩) hS0 ?resta6
    case hya6 =>
      intro wx hx
      obtain ⟨s1, s2, s3⟩ := hx
      go_simp
      try with_reducible rfl
    try simp only [Act.put, List.setIfInBounds_toArray, List.set_cons_zero, List.set_cons_succ]
    refine WS_take (i := 7) (v := ?va7) (by simp only [List.getElem?_toArray, List.getElem?_cons_succ, List.getElem?_cons_zero]; rfl) (by decide) (by kernel_rfl) (by kernel_rfl) (by intro _ _ _ h; exact h) (Or.inl ⟨by rfl, ?hya7⟩) hS0 ?resta7
    case hya7 =>
      intro wx hx
      obtain ⟨s1, s2, s3⟩ := hx
      go_simp
      try with_reducible rfl
    try simp only [Act.put, List.setIfInBounds_toArray, List.set_cons_zero, List.set_cons_succ]
    refine WS_one (i := 8) (by simp only [List.getElem?_toArray, List.getElem?_cons_succ, List.getElem?_cons_zero]; rfl) (by decide) (by kernel_rfl) (fun K hK => (if_pos (by kernel_rfl)).mpr ?_)
    go_simp
    refine HTX.out.mono ?_
    rintro e w5 ⟨rfl, b5⟩
    dsimp only
    have hb5 := (Below.refl w1.heap.size w1).drew.trans b5
    have HK5 := Lib.hid (HK1.out.below hb5)
    have hS5 := HSx.out w5 hb5
    refine hK _ _ hS5 ?_
    clear hK K b5 hS0 hS5 hb5
    try simp only [Act.put, List.setIfInBounds_toArray, List.set_cons_zero, List.set_cons_succ]
    refine WS_done (by kernel_rfl) ?_
    simp only [List.drop_succ_cons, List.drop_zero]
    go_wp2_with fail
    refine (say_any HK5.out HI.out T (by omega) HBD.out (dig m) (by omega)).mono ?_
    rintro e w9 ⟨rfl, H9⟩
    have HK9 := Lib.hid H9
    clear H9
    go_wp2_with fail
    go_end0
    exact ⟨rfl, by rw [HR.out]; exact Is.free (k := k) (R := [(w.heap.size, (.cells #[.int .i64 12, vs t] 59 (0, 0)))]) HK9.out⟩
  by_cases h13 : kd = 13
  · subst h13
    have HR : Hid (Nb.one E s ⟨13, t⟩ = Nb.rows E s ⟨13, t⟩) := Lib.hid rfl
    clear HG
    go_enter Tryz.func22, Tryz.ntmps22
    go_wp2_with fail
    rw [← HW1.out]
    refine (rows_any HK1.out T (by omega) hT6 HBD.out HE1.out ⟨13, t⟩ (by simp)).mono ?_
    rintro e w9 ⟨rfl, H9⟩
    have HK9 := Lib.hid H9
    clear H9
    go_wp2_with fail
    go_end0
    exact ⟨rfl, by rw [HR.out]; exact Is.free (k := k) (R := [(w.heap.size, (.cells #[.int .i64 13, vs t] 59 (0, 0)))]) HK9.out⟩
  by_cases h14 : kd = 14
  · subst h14
    have HR : Hid (Nb.one E s ⟨14, t⟩ = Nb.rows E s ⟨14, t⟩) := Lib.hid rfl
    clear HG
    go_enter Tryz.func22, Tryz.ntmps22
    go_wp2_with fail
    rw [← HW1.out]
    refine (rows_any HK1.out T (by omega) hT6 HBD.out HE1.out ⟨14, t⟩ (by simp)).mono ?_
    rintro e w9 ⟨rfl, H9⟩
    have HK9 := Lib.hid H9
    clear H9
    go_wp2_with fail
    go_end0
    exact ⟨rfl, by rw [HR.out]; exact Is.free (k := k) (R := [(w.heap.size, (.cells #[.int .i64 14, vs t] 59 (0, 0)))]) HK9.out⟩
  by_cases h15 : kd = 15
  · subst h15
    have HR : Hid (Nb.one E s ⟨15, t⟩ = Nb.rows E s ⟨15, t⟩) := Lib.hid rfl
    clear HG
    go_enter Tryz.func22, Tryz.ntmps22
    go_wp2_with fail
    rw [← HW1.out]
    refine (rows_any HK1.out T (by omega) hT6 HBD.out HE1.out ⟨15, t⟩ (by simp)).mono ?_
    rintro e w9 ⟨rfl, H9⟩
    have HK9 := Lib.hid H9
    clear H9
    go_wp2_with fail
    go_end0
    exact ⟨rfl, by rw [HR.out]; exact Is.free (k := k) (R := [(w.heap.size, (.cells #[.int .i64 15, vs t] 59 (0, 0)))]) HK9.out⟩
  by_cases h16 : kd = 16
  · subst h16
    have HR : Hid (Nb.one E s ⟨16, t⟩ = Nb.close (Nb.block s 3 [])) := Lib.hid rfl
    have HBL := Lib.hid (block_any (HK1.out.with (Below.refl _ _) (OwnC.nil _ _ _ _ _) : IsW B w0 w1 wb _ s (.slice none 0 0) []) 3 (by have := HBD.out.bl; omega) (by have := HBD.out.wo; omega) (by simp))
    clear HG
    go_enter Tryz.func22, Tryz.ntmps22
    go_wp2_with fail
    rw [← HW1.out]
    refine HBL.out.mono ?_
    rintro e w5 ⟨rfl, H5⟩
    have HK5 := Lib.hid H5
    clear H5
    go_wp2_with fail
    refine (close_any HK5.out).mono ?_
    rintro e w9 ⟨rfl, H9⟩
    have HK9 := Lib.hid H9
    clear H9
    go_wp2_with fail
    go_end0
    exact ⟨rfl, by rw [HR.out]; exact Is.free (k := k) (R := [(w.heap.size, (.cells #[.int .i64 16, vs t] 59 (0, 0)))]) HK9.out⟩
  by_cases h3 : kd = 3
  · subst h3
    have HR : Hid (Nb.one E s ⟨3, t⟩ = Nb.close s) := Lib.hid rfl
    clear HG
    go_enter Tryz.func22, Tryz.ntmps22
    go_wp2_with fail
    rw [← HW1.out]
    refine (close_any HK1.out).mono ?_
    rintro e w9 ⟨rfl, H9⟩
    have HK9 := Lib.hid H9
    clear H9
    go_wp2_with fail
    go_end0
    exact ⟨rfl, by rw [HR.out]; exact Is.free (k := k) (R := [(w.heap.size, (.cells #[.int .i64 3, vs t] 59 (0, 0)))]) HK9.out⟩
  have HR : Hid (Nb.one E s ⟨kd, t⟩ = s) := Lib.hid (by
    unfold Nb.one
    simp only [h1, h2, h3, h4, h5, h6, h7, h8, h9, h10, h11, h12, h13, h14, h15, h16, if_false, or_self])
  have e1 : (kd == 1) = false := by simp [h1]
  have e2 : (kd == 2) = false := by simp [h2]
  have e4 : (kd == 4) = false := by simp [h4]
  have e5 : (kd == 5) = false := by simp [h5]
  have e6 : (kd == 6) = false := by simp [h6]
  have e7 : (kd == 7) = false := by simp [h7]
  have e8 : (kd == 8) = false := by simp [h8]
  have e9 : (kd == 9) = false := by simp [h9]
  have e10 : (kd == 10) = false := by simp [h10]
  have e11 : (kd == 11) = false := by simp [h11]
  have e12 : (kd == 12) = false := by simp [h12]
  have e13 : (kd == 13) = false := by simp [h13]
  have e14 : (kd == 14) = false := by simp [h14]
  have e15 : (kd == 15) = false := by simp [h15]
  have e16 : (kd == 16) = false := by simp [h16]
  have e3 : (kd == 3) = false := by simp [h3]
  clear HG h1 h2 h4 h5 h6 h7 h8 h9 h10 h11 h12 h13 h14 h15 h16 h3
  go_enter Tryz.func22, Tryz.ntmps22
  go_wp2_with fail
  go_end0
  rw [← HW1.out]
  have HK9 := HK1
  exact ⟨rfl, by rw [HR.out]; exact Is.free (k := k) (R := [(w.heap.size, (.cells #[.int .i64 kd, vs t] 59 (0, 0)))]) HK9.out⟩
end
end Go.Proofs.YtjmmfihmamcopaaGreatDoor
