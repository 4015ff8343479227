/- number: refer. -/
import Derived.Test.YtjmmfihmamcopaaGreatDoorNbJ
namespace Go.Proofs.YtjmmfihmamcopaaGreatDoor
open Go.RowKit Tx Nb

/-- Two may come up. -/
theorem WS_two {P : Program} {Q : Exit → Act → World → Prop} {S : World → Prop} {n : Nat} {l : List Oper} {i j : Nat} {oi oj : Oper} {f : Nat} {listed : Array Bool} {a : Act} {w : World} (hi : l.toArray[i]? = some oi) (hj : l.toArray[j]? = some oj) (hin : i < n) (hjn : j < n)
    (hr : Region.ready .any l.toArray listed = [i, j])
    (h : ∀ K : Act → World → Prop, (∀ a' w', S w' → WS P l Q S n f (listed.setIfInBounds i true) a' w' → K a' w') → if Region.wanted oi (yielded l.toArray a.tmps) = true then Oper.wp P oi a w K Q else K (a.put oi.dst undef) w)
    (h' : ∀ K : Act → World → Prop, (∀ a' w', S w' → WS P l Q S n f (listed.setIfInBounds j true) a' w' → K a' w') → if Region.wanted oj (yielded l.toArray a.tmps) = true then Oper.wp P oj a w K Q else K (a.put oj.dst undef) w) : WS P l Q S n (f + 1) listed a w := by
  intro hB0 inv
  have hmi : i ∈ Region.ready .any l.toArray listed := by rw [hr]; simp
  have hmj : j ∈ Region.ready .any l.toArray listed := by rw [hr]; simp
  refine ⟨by rw [hr]; simp, fun m hm => ?_⟩
  have hmc : m = i ∨ m = j := by rw [hr] at hm; simpa using hm
  rcases hmc with rfl | rfl
  · refine ⟨hin, ?_⟩
    have h2 := h (fun a' w' => S w' ∧ wpAnyS P .any l.toArray Q S n (fun listed a w => Region.seqB .any l.toArray (l.toArray.size - n) n listed = true ∧ wpList P l.toArray Q (l.drop n) a w) f (listed.setIfInBounds m true) a' w') (fun a' w' hS hW => ⟨hS, hW hB0 (inv.set hmi hin)⟩)
    unfold wpOp
    simp only [hi]
    split
    · next hw => rw [if_pos hw] at h2; exact .inl h2
    · next hw => rw [if_neg hw] at h2; exact h2
  · refine ⟨hjn, ?_⟩
    have h2 := h' (fun a' w' => S w' ∧ wpAnyS P .any l.toArray Q S n (fun listed a w => Region.seqB .any l.toArray (l.toArray.size - n) n listed = true ∧ wpList P l.toArray Q (l.drop n) a w) f (listed.setIfInBounds m true) a' w') (fun a' w' hS hW => ⟨hS, hW hB0 (inv.set hmj hjn)⟩)
    unfold wpOp
    simp only [hj]
    split
    · next hw => rw [if_pos hw] at h2; exact .inl h2
    · next hw => rw [if_neg hw] at h2; exact h2
section
variable {B wb : Nat} {w0 w : World} {k : Cst} {s : St}
set_option maxRecDepth 100000 in
set_option maxHeartbeats 16000000 in
theorem refer_any {E : Env} (h : Is B w0 w wb k s) (hi : Inv s) (T : Nat) (hT : T ≤ 800000) (hd : Bd s T) (hE : EnvIs B w0 k E) (x : It) :
    Calls Tryz.prog 27 #[.pointer (some ⟨wb, 0, none⟩), .agg #[.int .i64 x.kind, vs x.s]] w fun e' w' => e' = .returned (.tuple #[]) ∧ Is B w0 w' wb k (Nb.refer E s x) := by
  obtain ⟨w1, hw1⟩ : ∃ w1, w1 = w.alloc (.cells #[.int .i64 x.kind, vs x.s] 59) := ⟨_, rfl⟩
  have hb1 : Below w.heap.size w w1 := by rw [hw1]; exact (Below.refl _ _).alloc (Nat.le_refl _) _
  have hnew : w1.heap[w.heap.size]? = some (.cells #[.int .i64 x.kind, vs x.s] 59 (0, 0)) := by rw [hw1]; exact heap_alloc_new w _
  have hk := h.keep hb1 w.heap.size _ (Nat.le_refl _) hnew
  have HK1 := Lib.hid hk
  have HE := Lib.hid hE
  have HI := Lib.hid hi
  have HBD := Lib.hid hd
  have HFD := Lib.hid (fun wx (hb : Below w1.heap.size w1 wx) => find_any (w := wx) k.oL k.oH k.oC k.oB E.labels x.s ((below_row hE.lb hk.bel hk.hB).step hb) (by have := hE.ok.lb; omega))
  obtain ⟨⟨y0, y1, y2, y3, -⟩, -⟩ : (w1.cell? ⟨wb, 10, none⟩ = some k.oL ∧ w1.cell? ⟨wb, 11, none⟩ = some k.oH ∧ w1.cell? ⟨wb, 12, none⟩ = some k.oC ∧ w1.cell? ⟨wb, 13, none⟩ = some k.oB ∧ True) ∧ True := ⟨⟨(hk.env).1, (hk.env).2.1, (hk.env).2.2.1, (hk.env).2.2.2.1, trivial⟩, trivial⟩
  have hx1 : w1.cell? ⟨w.heap.size, 1, none⟩ = some (vs x.s) := by rw [Lib.cell_of_heap hnew]; rfl
  have hS0 : (fun wz : World => (wz.cell? ⟨wb, 10, none⟩ = some k.oL ∧ wz.cell? ⟨wb, 11, none⟩ = some k.oH ∧ wz.cell? ⟨wb, 12, none⟩ = some k.oC ∧ wz.cell? ⟨wb, 13, none⟩ = some k.oB) ∧ wz.cell? ⟨w.heap.size, 1, none⟩ = some (vs x.s)) w1.drew := ⟨⟨y0, y1, y2, y3⟩, hx1⟩
  have HW1 := Lib.hid hw1
  clear h hi hd hE hk hnew hb1 y0 y1 y2 y3 hx1 hw1
  cases hf : find E.labels x.s with
  | none =>
    have hfv : foundV E.labels x.s = .tuple #[.agg #[vs [], vs [], .int .i64 0], .bool false] := by unfold foundV; rw [hf]
    rw [hfv] at HFD
    clear hfv
    go_enter Tryz.func27, Tryz.ntmps27
    go_upto_region 1 with fail
    rw [← HW1.out]
    go_cut [4, 5] from 6 to 15 (fun pv bv wx => ∃ lb, pv = .pointer (some ⟨lb, 0, none⟩) ∧ bv = .bool false ∧ Is B w0 wx wb { k with res := (lb, (.cells #[vs [], vs [], .int .i64 0] 63 (0, 0))) :: (w.heap.size, (.cells #[.int .i64 x.kind, vs x.s] 59 (0, 0))) :: k.res } s)
    case first =>
      refine wp_region_headS 12 (fun wz : World => (wz.cell? ⟨wb, 10, none⟩ = some k.oL ∧ wz.cell? ⟨wb, 11, none⟩ = some k.oH ∧ wz.cell? ⟨wb, 12, none⟩ = some k.oC ∧ wz.cell? ⟨wb, 13, none⟩ = some k.oB) ∧ wz.cell? ⟨w.heap.size, 1, none⟩ = some (vs x.s)) (by kernel_rfl) (by kernel_rfl) ?_
      refine WS_take (i := 0) (v := ?vaf0) (by simp only [List.getElem?_toArray, List.getElem?_cons_zero]; rfl) (by decide) (by kernel_rfl) (by kernel_rfl) (by intro _ _ _ h; exact h) (Or.inl ⟨by rfl, ?hyaf0⟩) hS0 ?restaf0
      case hyaf0 =>
        intro wx hx
        obtain ⟨⟨s1, s2, s3, s4⟩, s5⟩ := hx
        go_simp
        try with_reducible rfl
      try simp only [Act.put, List.setIfInBounds_toArray, List.set_cons_zero, List.set_cons_succ]
      refine WS_take (i := 1) (v := ?vaf1) (by simp only [List.getElem?_toArray, List.getElem?_cons_succ, List.getElem?_cons_zero]; rfl) (by decide) (by kernel_rfl) (by kernel_rfl) (by intro _ _ _ h; exact h) (Or.inl ⟨by rfl, ?hyaf1⟩) hS0 ?restaf1
      case hyaf1 =>
        intro wx hx
        obtain ⟨⟨s1, s2, s3, s4⟩, s5⟩ := hx
        go_simp
        try with_reducible rfl
      try simp only [Act.put, List.setIfInBounds_toArray, List.set_cons_zero, List.set_cons_succ]
      refine WS_take (i := 2) (v := ?vaf2) (by simp only [List.getElem?_toArray, List.getElem?_cons_succ, List.getElem?_cons_zero]; rfl) (by decide) (by kernel_rfl) (by kernel_rfl) (by intro _ _ _ h; exact h) (Or.inl ⟨by rfl, ?hyaf2⟩) hS0 ?restaf2
      case hyaf2 =>
        intro wx hx
        obtain ⟨⟨s1, s2, s3, s4⟩, s5⟩ := hx
        go_simp
        try with_reducible rfl
      try simp only [Act.put, List.setIfInBounds_toArray, List.set_cons_zero, List.set_cons_succ]
      refine WS_take (i := 3) (v := ?vaf3) (by simp only [List.getElem?_toArray, List.getElem?_cons_succ, List.getElem?_cons_zero]; rfl) (by decide) (by kernel_rfl) (by kernel_rfl) (by intro _ _ _ h; exact h) (Or.inl ⟨by rfl, ?hyaf3⟩) hS0 ?restaf3
      case hyaf3 =>
        intro wx hx
        obtain ⟨⟨s1, s2, s3, s4⟩, s5⟩ := hx
        go_simp
        try with_reducible rfl
      try simp only [Act.put, List.setIfInBounds_toArray, List.set_cons_zero, List.set_cons_succ]
      refine WS_take (i := 4) (v := ?vaf4) (by simp only [List.getElem?_toArray, List.getElem?_cons_succ, List.getElem?_cons_zero]; rfl) (by decide) (by kernel_rfl) (by kernel_rfl) (by intro _ _ _ h; exact h) (Or.inl ⟨by rfl, ?hyaf4⟩) hS0 ?restaf4
      case hyaf4 =>
        intro wx hx
        obtain ⟨⟨s1, s2, s3, s4⟩, s5⟩ := hx
        go_simp
        try with_reducible rfl
      try simp only [Act.put, List.setIfInBounds_toArray, List.set_cons_zero, List.set_cons_succ]
      refine WS_take (i := 5) (v := ?vaf5) (by simp only [List.getElem?_toArray, List.getElem?_cons_succ, List.getElem?_cons_zero]; rfl) (by decide) (by kernel_rfl) (by kernel_rfl) (by intro _ _ _ h; exact h) (Or.inl ⟨by rfl, ?hyaf5⟩) hS0 ?restaf5
      case hyaf5 =>
        intro wx hx
        obtain ⟨⟨s1, s2, s3, s4⟩, s5⟩ := hx
        go_simp
        try with_reducible rfl
      try simp only [Act.put, List.setIfInBounds_toArray, List.set_cons_zero, List.set_cons_succ]
      refine WS_two (i := 6) (j := 10) (by simp only [List.getElem?_toArray, List.getElem?_cons_succ, List.getElem?_cons_zero]; rfl) (by simp only [List.getElem?_toArray, List.getElem?_cons_succ, List.getElem?_cons_zero]; rfl) (by decide) (by decide) (by kernel_rfl) (fun K hK => (if_pos (by kernel_rfl)).mpr ?_) (fun K hK => (if_pos (by kernel_rfl)).mpr ?_)
      · go_simp
        refine (HFD.out _ (Below.refl w1.heap.size w1).drew).mono ?_
        rintro e w2 ⟨rfl, b2⟩
        dsimp only
        have HK2 := Lib.hid (HK1.out.below ((Below.refl w1.heap.size w1).drew.trans b2))
        have hS2 : (fun wz : World => (wz.cell? ⟨wb, 10, none⟩ = some k.oL ∧ wz.cell? ⟨wb, 11, none⟩ = some k.oH ∧ wz.cell? ⟨wb, 12, none⟩ = some k.oC ∧ wz.cell? ⟨wb, 13, none⟩ = some k.oB) ∧ wz.cell? ⟨w.heap.size, 1, none⟩ = some (vs x.s)) w2 := ⟨⟨(HK2.out.env).1, (HK2.out.env).2.1, (HK2.out.env).2.2.1, (HK2.out.env).2.2.2.1⟩, by rw [Lib.cell_of_heap (HK2.out.res (p := (w.heap.size, (.cells #[.int .i64 x.kind, vs x.s] 59 (0, 0)))) (by simp))]; rfl⟩
        refine hK _ _ hS2 ?_
        clear hK K
        try simp only [Act.put, List.setIfInBounds_toArray, List.set_cons_zero, List.set_cons_succ]
        refine WS_take (i := 7) (v := ?vbf7) (by simp only [List.getElem?_toArray, List.getElem?_cons_succ, List.getElem?_cons_zero]; rfl) (by decide) (by kernel_rfl) (by kernel_rfl) (by intro _ _ _ h; exact h) (Or.inl ⟨by rfl, ?hybf7⟩) hS2 ?restbf7
        case hybf7 =>
          intro wx hx
          obtain ⟨⟨s1, s2, s3, s4⟩, s5⟩ := hx
          go_simp
          try with_reducible rfl
        try simp only [Act.put, List.setIfInBounds_toArray, List.set_cons_zero, List.set_cons_succ]
        refine WS_take (i := 8) (v := ?vbf8) (by simp only [List.getElem?_toArray, List.getElem?_cons_succ, List.getElem?_cons_zero]; rfl) (by decide) (by kernel_rfl) (by kernel_rfl) (by intro _ _ _ h; exact h) (Or.inl ⟨by rfl, ?hybf8⟩) hS2 ?restbf8
        case hybf8 =>
          intro wx hx
          obtain ⟨⟨s1, s2, s3, s4⟩, s5⟩ := hx
          go_simp
          try with_reducible rfl
        try simp only [Act.put, List.setIfInBounds_toArray, List.set_cons_zero, List.set_cons_succ]
        refine WS_take (i := 9) (v := ?vbf9) (by simp only [List.getElem?_toArray, List.getElem?_cons_succ, List.getElem?_cons_zero]; rfl) (by decide) (by kernel_rfl) (by kernel_rfl) (by intro _ _ _ h; exact h) (Or.inl ⟨by rfl, ?hybf9⟩) hS2 ?restbf9
        case hybf9 =>
          intro wx hx
          obtain ⟨⟨s1, s2, s3, s4⟩, s5⟩ := hx
          go_simp
          try with_reducible rfl
        try simp only [Act.put, List.setIfInBounds_toArray, List.set_cons_zero, List.set_cons_succ]
        refine WS_one (i := 10) (by simp only [List.getElem?_toArray, List.getElem?_cons_succ, List.getElem?_cons_zero]; rfl) (by decide) (by kernel_rfl) (fun K hK => (if_pos (by kernel_rfl)).mpr ?_)
        have HK3 := Lib.hid (HK2.out.below ((Below.refl w2.heap.size w2).alloc (Nat.le_refl _) (.cells #[.string ⟨#[]⟩, .string ⟨#[]⟩, .int .i64 0] 63)))
        have hS3 : (fun wz : World => (wz.cell? ⟨wb, 10, none⟩ = some k.oL ∧ wz.cell? ⟨wb, 11, none⟩ = some k.oH ∧ wz.cell? ⟨wb, 12, none⟩ = some k.oC ∧ wz.cell? ⟨wb, 13, none⟩ = some k.oB) ∧ wz.cell? ⟨w.heap.size, 1, none⟩ = some (vs x.s)) (w2.alloc (.cells #[.string ⟨#[]⟩, .string ⟨#[]⟩, .int .i64 0] 63)) := ⟨⟨(HK3.out.env).1, (HK3.out.env).2.1, (HK3.out.env).2.2.1, (HK3.out.env).2.2.2.1⟩, by rw [Lib.cell_of_heap (HK3.out.res (p := (w.heap.size, (.cells #[.int .i64 x.kind, vs x.s] 59 (0, 0)))) (by simp))]; rfl⟩
        go_simp
        refine hK _ _ hS3 ?_
        clear hK K
        try simp only [Act.put, List.setIfInBounds_toArray, List.set_cons_zero, List.set_cons_succ]
        refine WS_one (i := 11) (by simp only [List.getElem?_toArray, List.getElem?_cons_succ, List.getElem?_cons_zero]; rfl) (by decide) (by kernel_rfl) (fun K hK => (if_pos (by kernel_rfl)).mpr ?_)
        obtain ⟨f0, f1, f2, f3, f4, f5⟩ := cells3 (heap_alloc_new w2 (.cells #[.string ⟨#[]⟩, .string ⟨#[]⟩, .int .i64 0] 63))
        have HK4 := Lib.hid (HK2.out.keep ((Below.refl w2.heap.size w2).alloc (Nat.le_refl _) (.cells #[vs [], vs [], .int .i64 0] 63 (0, 0))) w2.heap.size _ (Nat.le_refl _) (heap_alloc_new w2 (.cells #[vs [], vs [], .int .i64 0] 63 (0, 0))))
        go_simp
        refine hK _ _ ⟨⟨(HK4.out.env).1, (HK4.out.env).2.1, (HK4.out.env).2.2.1, (HK4.out.env).2.2.2.1⟩, by rw [Lib.cell_of_heap (HK4.out.res (p := (w.heap.size, (.cells #[.int .i64 x.kind, vs x.s] 59 (0, 0)))) (by simp))]; rfl⟩ ?_
        clear hK K
        try simp only [Act.put, List.setIfInBounds_toArray, List.set_cons_zero, List.set_cons_succ]
        refine WS_done (by kernel_rfl) ?_
        simp only [List.drop_succ_cons, List.drop_zero]
        go_wp2_with fail
        go_meet
        exact ⟨_, rfl, rfl, HK4.out⟩
      · have hbB : Below w1.heap.size w1 (w1.drew.alloc (.cells #[.string ⟨#[]⟩, .string ⟨#[]⟩, .int .i64 0] 63)) := ((Below.refl w1.heap.size w1).drew).alloc (Nat.le_refl _) _
        have HKB := Lib.hid (HK1.out.below hbB)
        have hSB : (fun wz : World => (wz.cell? ⟨wb, 10, none⟩ = some k.oL ∧ wz.cell? ⟨wb, 11, none⟩ = some k.oH ∧ wz.cell? ⟨wb, 12, none⟩ = some k.oC ∧ wz.cell? ⟨wb, 13, none⟩ = some k.oB) ∧ wz.cell? ⟨w.heap.size, 1, none⟩ = some (vs x.s)) (w1.drew.alloc (.cells #[.string ⟨#[]⟩, .string ⟨#[]⟩, .int .i64 0] 63)) := ⟨⟨(HKB.out.env).1, (HKB.out.env).2.1, (HKB.out.env).2.2.1, (HKB.out.env).2.2.2.1⟩, by rw [Lib.cell_of_heap (HKB.out.res (p := (w.heap.size, (.cells #[.int .i64 x.kind, vs x.s] 59 (0, 0)))) (by simp))]; rfl⟩
        have hnew2 := heap_alloc_new w1.drew (.cells #[.string ⟨#[]⟩, .string ⟨#[]⟩, .int .i64 0] 63)
        have HBB := Lib.hid hbB
        have HNW := Lib.hid hnew2
        clear hbB hnew2
        go_simp
        refine hK _ _ hSB ?_
        clear hK K
        try simp only [Act.put, List.setIfInBounds_toArray, List.set_cons_zero, List.set_cons_succ]
        refine WS_one (i := 6) (by simp only [List.getElem?_toArray, List.getElem?_cons_succ, List.getElem?_cons_zero]; rfl) (by decide) (by kernel_rfl) (fun K hK => (if_pos (by kernel_rfl)).mpr ?_)
        go_simp
        refine (HFD.out _ HBB.out).mono ?_
        rintro e w2 ⟨rfl, b2⟩
        dsimp only
        have HB2 := Lib.hid b2
        have HK2 := Lib.hid (HKB.out.below b2)
        have hS2 : (fun wz : World => (wz.cell? ⟨wb, 10, none⟩ = some k.oL ∧ wz.cell? ⟨wb, 11, none⟩ = some k.oH ∧ wz.cell? ⟨wb, 12, none⟩ = some k.oC ∧ wz.cell? ⟨wb, 13, none⟩ = some k.oB) ∧ wz.cell? ⟨w.heap.size, 1, none⟩ = some (vs x.s)) w2 := ⟨⟨(HK2.out.env).1, (HK2.out.env).2.1, (HK2.out.env).2.2.1, (HK2.out.env).2.2.2.1⟩, by rw [Lib.cell_of_heap (HK2.out.res (p := (w.heap.size, (.cells #[.int .i64 x.kind, vs x.s] 59 (0, 0)))) (by simp))]; rfl⟩
        refine hK _ _ hS2 ?_
        clear hK K
        try simp only [Act.put, List.setIfInBounds_toArray, List.set_cons_zero, List.set_cons_succ]
        refine WS_take (i := 7) (v := ?vcf7) (by simp only [List.getElem?_toArray, List.getElem?_cons_succ, List.getElem?_cons_zero]; rfl) (by decide) (by kernel_rfl) (by kernel_rfl) (by intro _ _ _ h; exact h) (Or.inl ⟨by rfl, ?hycf7⟩) hS2 ?restcf7
        case hycf7 =>
          intro wx hx
          obtain ⟨⟨s1, s2, s3, s4⟩, s5⟩ := hx
          go_simp
          try with_reducible rfl
        try simp only [Act.put, List.setIfInBounds_toArray, List.set_cons_zero, List.set_cons_succ]
        refine WS_take (i := 8) (v := ?vcf8) (by simp only [List.getElem?_toArray, List.getElem?_cons_succ, List.getElem?_cons_zero]; rfl) (by decide) (by kernel_rfl) (by kernel_rfl) (by intro _ _ _ h; exact h) (Or.inl ⟨by rfl, ?hycf8⟩) hS2 ?restcf8
        case hycf8 =>
          intro wx hx
          obtain ⟨⟨s1, s2, s3, s4⟩, s5⟩ := hx
          go_simp
          try with_reducible rfl
        try simp only [Act.put, List.setIfInBounds_toArray, List.set_cons_zero, List.set_cons_succ]
        refine WS_take (i := 9) (v := ?vcf9) (by simp only [List.getElem?_toArray, List.getElem?_cons_succ, List.getElem?_cons_zero]; rfl) (by decide) (by kernel_rfl) (by kernel_rfl) (by intro _ _ _ h; exact h) (Or.inl ⟨by rfl, ?hycf9⟩) hS2 ?restcf9
        case hycf9 =>
          intro wx hx
          obtain ⟨⟨s1, s2, s3, s4⟩, s5⟩ := hx
          go_simp
          try with_reducible rfl
        try simp only [Act.put, List.setIfInBounds_toArray, List.set_cons_zero, List.set_cons_succ]
        refine WS_one (i := 11) (by simp only [List.getElem?_toArray, List.getElem?_cons_succ, List.getElem?_cons_zero]; rfl) (by decide) (by kernel_rfl) (fun K hK => (if_pos (by kernel_rfl)).mpr ?_)
        have hl2 : w2.heap[w1.heap.size]? = some (.cells #[.string ⟨#[]⟩, .string ⟨#[]⟩, .int .i64 0] 63) := (HB2.out.block _ (by simp)).trans HNW.out
        obtain ⟨f0, f1, f2, f3, f4, f5⟩ := cells3 hl2
        have HK4 := Lib.hid (HK1.out.keep (set3_below (HBB.out.trans (HB2.out.mono (by simp))) (Nat.le_refl _) (vs []) (vs []) (.int .i64 0) : Below w1.heap.size w1 _) w1.heap.size _ (Nat.le_refl _) (set3_same hl2))
        go_simp
        refine hK _ _ ⟨⟨(HK4.out.env).1, (HK4.out.env).2.1, (HK4.out.env).2.2.1, (HK4.out.env).2.2.2.1⟩, by rw [Lib.cell_of_heap (HK4.out.res (p := (w.heap.size, (.cells #[.int .i64 x.kind, vs x.s] 59 (0, 0)))) (by simp))]; rfl⟩ ?_
        clear hK K
        try simp only [Act.put, List.setIfInBounds_toArray, List.set_cons_zero, List.set_cons_succ]
        refine WS_done (by kernel_rfl) ?_
        simp only [List.drop_succ_cons, List.drop_zero]
        go_wp2_with fail
        go_meet
        exact ⟨_, rfl, rfl, HK4.out⟩
    case rest =>
      obtain ⟨lb, rfl, rfl, hI⟩ := hcut
      have HR : Hid (Nb.refer E s x = Nb.note (say s [63, 63]) 13 x.s) := Lib.hid (by unfold Nb.refer; rw [hf])
      have HH := Lib.hid hI
      clear hI hf HFD HK1 hS0
      go_wp2_with fail
      refine (say_any HH.out HI.out T (by omega) HBD.out [63, 63] (by simp)).mono ?_
      rintro e w3 ⟨rfl, H3⟩
      have HK3 := Lib.hid H3
      have z1 : w3.cell? ⟨w.heap.size, 1, none⟩ = some (vs x.s) := by rw [Lib.cell_of_heap (H3.res (p := (w.heap.size, (.cells #[.int .i64 x.kind, vs x.s] 59 (0, 0)))) (by simp))]; rfl
      have HNT := Lib.hid (note_any H3 13 x.s (by have := (HBD.out.say HI.out [63, 63] 10 (by simp)).nt; omega))
      clear H3
      go_wp2_with fail
      refine HNT.out.mono ?_
      rintro e w4 ⟨rfl, H4⟩
      have HK4 := Lib.hid H4
      clear H4
      go_wp2_with fail
      go_end0
      exact ⟨rfl, by rw [HR.out]; exact Is.free (R := [(lb, (.cells #[vs [], vs [], .int .i64 0] 63 (0, 0))), (w.heap.size, (.cells #[.int .i64 x.kind, vs x.s] 59 (0, 0)))]) HK4.out⟩
  | some l =>
    have hfv : foundV E.labels x.s = .tuple #[.agg #[vs l.key, vs l.num, .int .i64 l.page], .bool true] := by unfold foundV; rw [hf]
    rw [hfv] at HFD
    clear hfv
    go_enter Tryz.func27, Tryz.ntmps27
    go_upto_region 1 with fail
    rw [← HW1.out]
    go_cut [4, 5] from 6 to 15 (fun pv bv wx => ∃ lb, pv = .pointer (some ⟨lb, 0, none⟩) ∧ bv = .bool true ∧ Is B w0 wx wb { k with res := (lb, (.cells #[vs l.key, vs l.num, .int .i64 l.page] 63 (0, 0))) :: (w.heap.size, (.cells #[.int .i64 x.kind, vs x.s] 59 (0, 0))) :: k.res } s)
    case first =>
      refine wp_region_headS 12 (fun wz : World => (wz.cell? ⟨wb, 10, none⟩ = some k.oL ∧ wz.cell? ⟨wb, 11, none⟩ = some k.oH ∧ wz.cell? ⟨wb, 12, none⟩ = some k.oC ∧ wz.cell? ⟨wb, 13, none⟩ = some k.oB) ∧ wz.cell? ⟨w.heap.size, 1, none⟩ = some (vs x.s)) (by kernel_rfl) (by kernel_rfl) ?_
      refine WS_take (i := 0) (v := ?vat0) (by simp only [List.getElem?_toArray, List.getElem?_cons_zero]; rfl) (by decide) (by kernel_rfl) (by kernel_rfl) (by intro _ _ _ h; exact h) (Or.inl ⟨by rfl, ?hyat0⟩) hS0 ?restat0
      case hyat0 =>
        intro wx hx
        obtain ⟨⟨s1, s2, s3, s4⟩, s5⟩ := hx
        go_simp
        try with_reducible rfl
      try simp only [Act.put, List.setIfInBounds_toArray, List.set_cons_zero, List.set_cons_succ]
      refine WS_take (i := 1) (v := ?vat1) (by simp only [List.getElem?_toArray, List.getElem?_cons_succ, List.getElem?_cons_zero]; rfl) (by decide) (by kernel_rfl) (by kernel_rfl) (by intro _ _ _ h; exact h) (Or.inl ⟨by rfl, ?hyat1⟩) hS0 ?restat1
      case hyat1 =>
        intro wx hx
        obtain ⟨⟨s1, s2, s3, s4⟩, s5⟩ := hx
        go_simp
        try with_reducible rfl
      try simp only [Act.put, List.setIfInBounds_toArray, List.set_cons_zero, List.set_cons_succ]
      refine WS_take (i := 2) (v := ?vat2) (by simp only [List.getElem?_toArray, List.getElem?_cons_succ, List.getElem?_cons_zero]; rfl) (by decide) (by kernel_rfl) (by kernel_rfl) (by intro _ _ _ h; exact h) (Or.inl ⟨by rfl, ?hyat2⟩) hS0 ?restat2
      case hyat2 =>
        intro wx hx
        obtain ⟨⟨s1, s2, s3, s4⟩, s5⟩ := hx
        go_simp
        try with_reducible rfl
      try simp only [Act.put, List.setIfInBounds_toArray, List.set_cons_zero, List.set_cons_succ]
      refine WS_take (i := 3) (v := ?vat3) (by simp only [List.getElem?_toArray, List.getElem?_cons_succ, List.getElem?_cons_zero]; rfl) (by decide) (by kernel_rfl) (by kernel_rfl) (by intro _ _ _ h; exact h) (Or.inl ⟨by rfl, ?hyat3⟩) hS0 ?restat3
      case hyat3 =>
        intro wx hx
        obtain ⟨⟨s1, s2, s3, s4⟩, s5⟩ := hx
        go_simp
        try with_reducible rfl
      try simp only [Act.put, List.setIfInBounds_toArray, List.set_cons_zero, List.set_cons_succ]
      refine WS_take (i := 4) (v := ?vat4) (by simp only [List.getElem?_toArray, List.getElem?_cons_succ, List.getElem?_cons_zero]; rfl) (by decide) (by kernel_rfl) (by kernel_rfl) (by intro _ _ _ h; exact h) (Or.inl ⟨by rfl, ?hyat4⟩) hS0 ?restat4
      case hyat4 =>
        intro wx hx
        obtain ⟨⟨s1, s2, s3, s4⟩, s5⟩ := hx
        go_simp
        try with_reducible rfl
      try simp only [Act.put, List.setIfInBounds_toArray, List.set_cons_zero, List.set_cons_succ]
      refine WS_take (i := 5) (v := ?vat5) (by simp only [List.getElem?_toArray, List.getElem?_cons_succ, List.getElem?_cons_zero]; rfl) (by decide) (by kernel_rfl) (by kernel_rfl) (by intro _ _ _ h; exact h) (Or.inl ⟨by rfl, ?hyat5⟩) hS0 ?restat5
      case hyat5 =>
        intro wx hx
        obtain ⟨⟨s1, s2, s3, s4⟩, s5⟩ := hx
        go_simp
        try with_reducible rfl
      try simp only [Act.put, List.setIfInBounds_toArray, List.set_cons_zero, List.set_cons_succ]
      refine WS_two (i := 6) (j := 10) (by simp only [List.getElem?_toArray, List.getElem?_cons_succ, List.getElem?_cons_zero]; rfl) (by simp only [List.getElem?_toArray, List.getElem?_cons_succ, List.getElem?_cons_zero]; rfl) (by decide) (by decide) (by kernel_rfl) (fun K hK => (if_pos (by kernel_rfl)).mpr ?_) (fun K hK => (if_pos (by kernel_rfl)).mpr ?_)
      · go_simp
        refine (HFD.out _ (Below.refl w1.heap.size w1).drew).mono ?_
        rintro e w2 ⟨rfl, b2⟩
        dsimp only
        have HK2 := Lib.hid (HK1.out.below ((Below.refl w1.heap.size w1).drew.trans b2))
        have hS2 : (fun wz : World => (wz.cell? ⟨wb, 10, none⟩ = some k.oL ∧ wz.cell? ⟨wb, 11, none⟩ = some k.oH ∧ wz.cell? ⟨wb, 12, none⟩ = some k.oC ∧ wz.cell? ⟨wb, 13, none⟩ = some k.oB) ∧ wz.cell? ⟨w.heap.size, 1, none⟩ = some (vs x.s)) w2 := ⟨⟨(HK2.out.env).1, (HK2.out.env).2.1, (HK2.out.env).2.2.1, (HK2.out.env).2.2.2.1⟩, by rw [Lib.cell_of_heap (HK2.out.res (p := (w.heap.size, (.cells #[.int .i64 x.kind, vs x.s] 59 (0, 0)))) (by simp))]; rfl⟩
        refine hK _ _ hS2 ?_
        clear hK K
        try simp only [Act.put, List.setIfInBounds_toArray, List.set_cons_zero, List.set_cons_succ]
        refine WS_take (i := 7) (v := ?vbt7) (by simp only [List.getElem?_toArray, List.getElem?_cons_succ, List.getElem?_cons_zero]; rfl) (by decide) (by kernel_rfl) (by kernel_rfl) (by intro _ _ _ h; exact h) (Or.inl ⟨by rfl, ?hybt7⟩) hS2 ?restbt7
        case hybt7 =>
          intro wx hx
          obtain ⟨⟨s1, s2, s3, s4⟩, s5⟩ := hx
          go_simp
          try with_reducible rfl
        try simp only [Act.put, List.setIfInBounds_toArray, List.set_cons_zero, List.set_cons_succ]
        refine WS_take (i := 8) (v := ?vbt8) (by simp only [List.getElem?_toArray, List.getElem?_cons_succ, List.getElem?_cons_zero]; rfl) (by decide) (by kernel_rfl) (by kernel_rfl) (by intro _ _ _ h; exact h) (Or.inl ⟨by rfl, ?hybt8⟩) hS2 ?restbt8
        case hybt8 =>
          intro wx hx
          obtain ⟨⟨s1, s2, s3, s4⟩, s5⟩ := hx
          go_simp
          try with_reducible rfl
        try simp only [Act.put, List.setIfInBounds_toArray, List.set_cons_zero, List.set_cons_succ]
        refine WS_take (i := 9) (v := ?vbt9) (by simp only [List.getElem?_toArray, List.getElem?_cons_succ, List.getElem?_cons_zero]; rfl) (by decide) (by kernel_rfl) (by kernel_rfl) (by intro _ _ _ h; exact h) (Or.inl ⟨by rfl, ?hybt9⟩) hS2 ?restbt9
        case hybt9 =>
          intro wx hx
          obtain ⟨⟨s1, s2, s3, s4⟩, s5⟩ := hx
          go_simp
          try with_reducible rfl
        try simp only [Act.put, List.setIfInBounds_toArray, List.set_cons_zero, List.set_cons_succ]
        refine WS_one (i := 10) (by simp only [List.getElem?_toArray, List.getElem?_cons_succ, List.getElem?_cons_zero]; rfl) (by decide) (by kernel_rfl) (fun K hK => (if_pos (by kernel_rfl)).mpr ?_)
        have HK3 := Lib.hid (HK2.out.below ((Below.refl w2.heap.size w2).alloc (Nat.le_refl _) (.cells #[.string ⟨#[]⟩, .string ⟨#[]⟩, .int .i64 0] 63)))
        have hS3 : (fun wz : World => (wz.cell? ⟨wb, 10, none⟩ = some k.oL ∧ wz.cell? ⟨wb, 11, none⟩ = some k.oH ∧ wz.cell? ⟨wb, 12, none⟩ = some k.oC ∧ wz.cell? ⟨wb, 13, none⟩ = some k.oB) ∧ wz.cell? ⟨w.heap.size, 1, none⟩ = some (vs x.s)) (w2.alloc (.cells #[.string ⟨#[]⟩, .string ⟨#[]⟩, .int .i64 0] 63)) := ⟨⟨(HK3.out.env).1, (HK3.out.env).2.1, (HK3.out.env).2.2.1, (HK3.out.env).2.2.2.1⟩, by rw [Lib.cell_of_heap (HK3.out.res (p := (w.heap.size, (.cells #[.int .i64 x.kind, vs x.s] 59 (0, 0)))) (by simp))]; rfl⟩
        go_simp
        refine hK _ _ hS3 ?_
        clear hK K
        try simp only [Act.put, List.setIfInBounds_toArray, List.set_cons_zero, List.set_cons_succ]
        refine WS_one (i := 11) (by simp only [List.getElem?_toArray, List.getElem?_cons_succ, List.getElem?_cons_zero]; rfl) (by decide) (by kernel_rfl) (fun K hK => (if_pos (by kernel_rfl)).mpr ?_)
        obtain ⟨f0, f1, f2, f3, f4, f5⟩ := cells3 (heap_alloc_new w2 (.cells #[.string ⟨#[]⟩, .string ⟨#[]⟩, .int .i64 0] 63))
        have HK4 := Lib.hid (HK2.out.keep ((Below.refl w2.heap.size w2).alloc (Nat.le_refl _) (.cells #[vs l.key, vs l.num, .int .i64 l.page] 63 (0, 0))) w2.heap.size _ (Nat.le_refl _) (heap_alloc_new w2 (.cells #[vs l.key, vs l.num, .int .i64 l.page] 63 (0, 0))))
        go_simp
        refine hK _ _ ⟨⟨(HK4.out.env).1, (HK4.out.env).2.1, (HK4.out.env).2.2.1, (HK4.out.env).2.2.2.1⟩, by rw [Lib.cell_of_heap (HK4.out.res (p := (w.heap.size, (.cells #[.int .i64 x.kind, vs x.s] 59 (0, 0)))) (by simp))]; rfl⟩ ?_
        clear hK K
        try simp only [Act.put, List.setIfInBounds_toArray, List.set_cons_zero, List.set_cons_succ]
        refine WS_done (by kernel_rfl) ?_
        simp only [List.drop_succ_cons, List.drop_zero]
        go_wp2_with fail
        go_meet
        exact ⟨_, rfl, rfl, HK4.out⟩
      · have hbB : Below w1.heap.size w1 (w1.drew.alloc (.cells #[.string ⟨#[]⟩, .string ⟨#[]⟩, .int .i64 0] 63)) := ((Below.refl w1.heap.size w1).drew).alloc (Nat.le_refl _) _
        have HKB := Lib.hid (HK1.out.below hbB)
        have hSB : (fun wz : World => (wz.cell? ⟨wb, 10, none⟩ = some k.oL ∧ wz.cell? ⟨wb, 11, none⟩ = some k.oH ∧ wz.cell? ⟨wb, 12, none⟩ = some k.oC ∧ wz.cell? ⟨wb, 13, none⟩ = some k.oB) ∧ wz.cell? ⟨w.heap.size, 1, none⟩ = some (vs x.s)) (w1.drew.alloc (.cells #[.string ⟨#[]⟩, .string ⟨#[]⟩, .int .i64 0] 63)) := ⟨⟨(HKB.out.env).1, (HKB.out.env).2.1, (HKB.out.env).2.2.1, (HKB.out.env).2.2.2.1⟩, by rw [Lib.cell_of_heap (HKB.out.res (p := (w.heap.size, (.cells #[.int .i64 x.kind, vs x.s] 59 (0, 0)))) (by simp))]; rfl⟩
        have hnew2 := heap_alloc_new w1.drew (.cells #[.string ⟨#[]⟩, .string ⟨#[]⟩, .int .i64 0] 63)
        have HBB := Lib.hid hbB
        have HNW := Lib.hid hnew2
        clear hbB hnew2
        go_simp
        refine hK _ _ hSB ?_
        clear hK K
        try simp only [Act.put, List.setIfInBounds_toArray, List.set_cons_zero, List.set_cons_succ]
        refine WS_one (i := 6) (by simp only [List.getElem?_toArray, List.getElem?_cons_succ, List.getElem?_cons_zero]; rfl) (by decide) (by kernel_rfl) (fun K hK => (if_pos (by kernel_rfl)).mpr ?_)
        go_simp
        refine (HFD.out _ HBB.out).mono ?_
        rintro e w2 ⟨rfl, b2⟩
        dsimp only
        have HB2 := Lib.hid b2
        have HK2 := Lib.hid (HKB.out.below b2)
        have hS2 : (fun wz : World => (wz.cell? ⟨wb, 10, none⟩ = some k.oL ∧ wz.cell? ⟨wb, 11, none⟩ = some k.oH ∧ wz.cell? ⟨wb, 12, none⟩ = some k.oC ∧ wz.cell? ⟨wb, 13, none⟩ = some k.oB) ∧ wz.cell? ⟨w.heap.size, 1, none⟩ = some (vs x.s)) w2 := ⟨⟨(HK2.out.env).1, (HK2.out.env).2.1, (HK2.out.env).2.2.1, (HK2.out.env).2.2.2.1⟩, by rw [Lib.cell_of_heap (HK2.out.res (p := (w.heap.size, (.cells #[.int .i64 x.kind, vs x.s] 59 (0, 0)))) (by simp))]; rfl⟩
        refine hK _ _ hS2 ?_
        clear hK K
        try simp only [Act.put, List.setIfInBounds_toArray, List.set_cons_zero, List.set_cons_succ]
        refine WS_take (i := 7) (v := ?vct7) (by simp only [List.getElem?_toArray, List.getElem?_cons_succ, List.getElem?_cons_zero]; rfl) (by decide) (by kernel_rfl) (by kernel_rfl) (by intro _ _ _ h; exact h) (Or.inl ⟨by rfl, ?hyct7⟩) hS2 ?restct7
        case hyct7 =>
          intro wx hx
          obtain ⟨⟨s1, s2, s3, s4⟩, s5⟩ := hx
          go_simp
          try with_reducible rfl
        try simp only [Act.put, List.setIfInBounds_toArray, List.set_cons_zero, List.set_cons_succ]
        refine WS_take (i := 8) (v := ?vct8) (by simp only [List.getElem?_toArray, List.getElem?_cons_succ, List.getElem?_cons_zero]; rfl) (by decide) (by kernel_rfl) (by kernel_rfl) (by intro _ _ _ h; exact h) (Or.inl ⟨by rfl, ?hyct8⟩) hS2 ?restct8
        case hyct8 =>
          intro wx hx
          obtain ⟨⟨s1, s2, s3, s4⟩, s5⟩ := hx
          go_simp
          try with_reducible rfl
        try simp only [Act.put, List.setIfInBounds_toArray, List.set_cons_zero, List.set_cons_succ]
        refine WS_take (i := 9) (v := ?vct9) (by simp only [List.getElem?_toArray, List.getElem?_cons_succ, List.getElem?_cons_zero]; rfl) (by decide) (by kernel_rfl) (by kernel_rfl) (by intro _ _ _ h; exact h) (Or.inl ⟨by rfl, ?hyct9⟩) hS2 ?restct9
        case hyct9 =>
          intro wx hx
          obtain ⟨⟨s1, s2, s3, s4⟩, s5⟩ := hx
          go_simp
          try with_reducible rfl
        try simp only [Act.put, List.setIfInBounds_toArray, List.set_cons_zero, List.set_cons_succ]
        refine WS_one (i := 11) (by simp only [List.getElem?_toArray, List.getElem?_cons_succ, List.getElem?_cons_zero]; rfl) (by decide) (by kernel_rfl) (fun K hK => (if_pos (by kernel_rfl)).mpr ?_)
        have hl2 : w2.heap[w1.heap.size]? = some (.cells #[.string ⟨#[]⟩, .string ⟨#[]⟩, .int .i64 0] 63) := (HB2.out.block _ (by simp)).trans HNW.out
        obtain ⟨f0, f1, f2, f3, f4, f5⟩ := cells3 hl2
        have HK4 := Lib.hid (HK1.out.keep (set3_below (HBB.out.trans (HB2.out.mono (by simp))) (Nat.le_refl _) (vs l.key) (vs l.num) (.int .i64 l.page) : Below w1.heap.size w1 _) w1.heap.size _ (Nat.le_refl _) (set3_same hl2))
        go_simp
        refine hK _ _ ⟨⟨(HK4.out.env).1, (HK4.out.env).2.1, (HK4.out.env).2.2.1, (HK4.out.env).2.2.2.1⟩, by rw [Lib.cell_of_heap (HK4.out.res (p := (w.heap.size, (.cells #[.int .i64 x.kind, vs x.s] 59 (0, 0)))) (by simp))]; rfl⟩ ?_
        clear hK K
        try simp only [Act.put, List.setIfInBounds_toArray, List.set_cons_zero, List.set_cons_succ]
        refine WS_done (by kernel_rfl) ?_
        simp only [List.drop_succ_cons, List.drop_zero]
        go_wp2_with fail
        go_meet
        exact ⟨_, rfl, rfl, HK4.out⟩
    case rest =>
      obtain ⟨lb, rfl, rfl, hI⟩ := hcut
      have HH := Lib.hid hI
      have z0 : wc.cell? ⟨w.heap.size, 0, none⟩ = some (.int .i64 x.kind) := by rw [Lib.cell_of_heap (hI.res (p := (w.heap.size, (.cells #[.int .i64 x.kind, vs x.s] 59 (0, 0)))) (by simp))]; rfl
      have z1 : wc.cell? ⟨lb, 1, none⟩ = some (vs l.num) := by rw [Lib.cell_of_heap (hI.res (p := (lb, (.cells #[vs l.key, vs l.num, .int .i64 l.page] 63 (0, 0)))) (by simp))]; rfl
      have z2 : wc.cell? ⟨lb, 2, none⟩ = some (.int .i64 l.page) := by rw [Lib.cell_of_heap (hI.res (p := (lb, (.cells #[vs l.key, vs l.num, .int .i64 l.page] 63 (0, 0)))) (by simp))]; rfl
      have hln := HE.out.ok.lbt l (List.mem_of_find?_eq_some hf)
      by_cases h7 : x.kind = 7
      · have HR : Hid (Nb.refer E s x = say s l.num) := Lib.hid (by unfold Nb.refer; rw [hf]; simp only [h7, if_true])
        have h7b : (x.kind == 7) = true := by simp [h7]
        clear hI hf HFD HK1 hS0 h7
        go_wp2_with fail
        refine (say_any HH.out HI.out T (by omega) HBD.out l.num (by omega)).mono ?_
        rintro e w3 ⟨rfl, H3⟩
        have HK3 := Lib.hid H3
        clear H3
        go_wp2_with fail
        go_end0
        exact ⟨rfl, by rw [HR.out]; exact Is.free (R := [(lb, (.cells #[vs l.key, vs l.num, .int .i64 l.page] 63 (0, 0))), (w.heap.size, (.cells #[.int .i64 x.kind, vs x.s] 59 (0, 0)))]) HK3.out⟩
      · have HR : Hid (Nb.refer E s x = say s (dig l.page)) := Lib.hid (by unfold Nb.refer; rw [hf]; simp only [if_neg h7])
        have h7b : (x.kind == 7) = false := by simp [h7]
        have HTX := Lib.hid (cnText_any l.page wc (HE.out.gl _ hI.bel))
        have hdl := dig_len6 l.page
        clear hI hf HFD HK1 hS0 h7
        go_wp2_with fail
        refine HTX.out.mono ?_
        rintro e w2 ⟨rfl, b2⟩
        have HK2 := Lib.hid (HH.out.below b2)
        clear b2
        go_wp2_with fail
        refine (say_any HK2.out HI.out T (by omega) HBD.out (dig l.page) (by omega)).mono ?_
        rintro e w3 ⟨rfl, H3⟩
        have HK3 := Lib.hid H3
        clear H3
        go_wp2_with fail
        go_end0
        exact ⟨rfl, by rw [HR.out]; exact Is.free (R := [(lb, (.cells #[vs l.key, vs l.num, .int .i64 l.page] 63 (0, 0))), (w.heap.size, (.cells #[.int .i64 x.kind, vs x.s] 59 (0, 0)))]) HK3.out⟩
end
end Go.Proofs.YtjmmfihmamcopaaGreatDoor
