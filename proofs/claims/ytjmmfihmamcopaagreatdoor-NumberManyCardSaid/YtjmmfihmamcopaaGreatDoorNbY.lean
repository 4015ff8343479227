/- stetlaw11.fixed. -/
import Derived.Test.YtjmmfihmamcopaaGreatDoorNbX
namespace Go.Proofs.YtjmmfihmamcopaaGreatDoor
open Go.RowKit Tx Nb

theorem ints_row {w : World} {v : Value} {l : List Int} (h : RowC 1 inF w w.heap.size v l) : Ints w w.heap.size v l := h.row
theorem lit_txs (w w1 w' : World) (n : Nat) (hn : w.heap.size = n) (l : List Bs) (hl : l.length ≤ 10) (hw : w1 = w.alloc (.cells (l.flatMap txF).toArray 9)) (hb : Below w1.heap.size w1 w') : RowC 1 txF w' w'.heap.size (.slice (some ⟨n, 0, none⟩) l.length l.length) l := by
  subst hw
  have := (rowC_lit (f := txF) txF_len 9 l w (by simp only [maxLen]; omega)).rowC txF_len
  rw [hn] at this
  exact this.step hb
theorem want_row (w : World) (n : Nat) (hn : w.heap.size = n) :
    Below w.heap.size w (((((w.alloc (.cells #[vs [49], vs [65], vs [98]] 9)).alloc (.cells #[vs [49, 46], vs [91, 88, 57, 57, 93, 63, 63]] 9)).alloc (.cells #[vs [49, 46, 49], vs [67]] 9)).alloc (.cells #[vs [32, 32, 49, 46, 49, 32, 67, 32, 51]] 9)).alloc (.cells #[.int .i64 1, .slice (some ⟨n, 0, none⟩) 3 3, .int .i64 0, .slice (some ⟨n + 1, 0, none⟩) 2 2, .int .i64 1, .slice (some ⟨n + 1 + 1, 0, none⟩) 2 2, .int .i64 2, .slice (some ⟨n + 1 + 1 + 1, 0, none⟩) 1 1] 89)) ∧
    BlRow (((((w.alloc (.cells #[vs [49], vs [65], vs [98]] 9)).alloc (.cells #[vs [49, 46], vs [91, 88, 57, 57, 93, 63, 63]] 9)).alloc (.cells #[vs [49, 46, 49], vs [67]] 9)).alloc (.cells #[vs [32, 32, 49, 46, 49, 32, 67, 32, 51]] 9)).alloc (.cells #[.int .i64 1, .slice (some ⟨n, 0, none⟩) 3 3, .int .i64 0, .slice (some ⟨n + 1, 0, none⟩) 2 2, .int .i64 1, .slice (some ⟨n + 1 + 1, 0, none⟩) 2 2, .int .i64 2, .slice (some ⟨n + 1 + 1 + 1, 0, none⟩) 1 1] 89)) (.slice (some ⟨n + 1 + 1 + 1 + 1, 0, none⟩) 4 4) [(1, [[49], [65], [98]]), (0, [[49, 46], [91, 88, 57, 57, 93, 63, 63]]), (1, [[49, 46, 49], [67]]), (2, [[32, 32, 49, 46, 49, 32, 67, 32, 51]])] := by
  obtain ⟨w1, hw1⟩ : ∃ w1, w1 = w.alloc (.cells #[vs [49], vs [65], vs [98]] 9) := ⟨_, rfl⟩
  obtain ⟨w2, hw2⟩ : ∃ w2, w2 = w1.alloc (.cells #[vs [49, 46], vs [91, 88, 57, 57, 93, 63, 63]] 9) := ⟨_, rfl⟩
  obtain ⟨w3, hw3⟩ : ∃ w3, w3 = w2.alloc (.cells #[vs [49, 46, 49], vs [67]] 9) := ⟨_, rfl⟩
  obtain ⟨w4, hw4⟩ : ∃ w4, w4 = w3.alloc (.cells #[vs [32, 32, 49, 46, 49, 32, 67, 32, 51]] 9) := ⟨_, rfl⟩
  obtain ⟨w5, hw5⟩ : ∃ w5, w5 = w4.alloc (.cells #[.int .i64 1, .slice (some ⟨n, 0, none⟩) 3 3, .int .i64 0, .slice (some ⟨n + 1, 0, none⟩) 2 2, .int .i64 1, .slice (some ⟨n + 1 + 1, 0, none⟩) 2 2, .int .i64 2, .slice (some ⟨n + 1 + 1 + 1, 0, none⟩) 1 1] 89) := ⟨_, rfl⟩
  have s1 : w1.heap.size = n + 1 := by rw [hw1]; simp [hn]
  have s2 : w2.heap.size = n + 1 + 1 := by rw [hw2]; simp [s1]
  have s3 : w3.heap.size = n + 1 + 1 + 1 := by rw [hw3]; simp [s2]
  have s4 : w4.heap.size = n + 1 + 1 + 1 + 1 := by rw [hw4]; simp [s3]
  have b1 : Below w.heap.size w w1 := by rw [hw1]; exact (Below.refl _ _).alloc (Nat.le_refl _) _
  have b2 : Below w1.heap.size w1 w2 := by rw [hw2]; exact (Below.refl _ _).alloc (Nat.le_refl _) _
  have b3 : Below w2.heap.size w2 w3 := by rw [hw3]; exact (Below.refl _ _).alloc (Nat.le_refl _) _
  have b4 : Below w3.heap.size w3 w4 := by rw [hw4]; exact (Below.refl _ _).alloc (Nat.le_refl _) _
  have b5 : Below w4.heap.size w4 w5 := by rw [hw5]; exact (Below.refl _ _).alloc (Nat.le_refl _) _
  have t1 := lit_txs w w1 w5 n hn [[49], [65], [98]] (by decide) hw1 (below_via (below_via (below_via b2 b3) b4) b5)
  have t2 := lit_txs w1 w2 w5 (n + 1) s1 [[49, 46], [91, 88, 57, 57, 93, 63, 63]] (by decide) hw2 (below_via (below_via b3 b4) b5)
  have t3 := lit_txs w2 w3 w5 (n + 1 + 1) s2 [[49, 46, 49], [67]] (by decide) hw3 (below_via b4 b5)
  have t4 := lit_txs w3 w4 w5 (n + 1 + 1 + 1) s3 [[32, 32, 49, 46, 49, 32, 67, 32, 51]] (by decide) hw4 b5
  have t5 := (rowC_lit (f := bkF) bkF_len 89 [((1 : Int), Value.slice (some ⟨n, 0, none⟩) 3 3), (0, Value.slice (some ⟨n + 1, 0, none⟩) 2 2), (1, Value.slice (some ⟨n + 1 + 1, 0, none⟩) 2 2), (2, Value.slice (some ⟨n + 1 + 1 + 1, 0, none⟩) 1 1)] w4 (by simp [maxLen])).rowC bkF_len
  rw [← hw1, ← hw2, ← hw3, ← hw4, ← hw5]
  refine ⟨below_via (below_via (below_via (below_via b1 b2) b3) b4) b5, [((1 : Int), Value.slice (some ⟨n, 0, none⟩) 3 3), (0, Value.slice (some ⟨n + 1, 0, none⟩) 2 2), (1, Value.slice (some ⟨n + 1 + 1, 0, none⟩) 2 2), (2, Value.slice (some ⟨n + 1 + 1 + 1, 0, none⟩) 1 1)], ?_, rfl, fun j h h' => ?_⟩
  · rw [hw5, ← s4]
    exact t5
  · match j, h with
    | 0, _ => exact ⟨rfl, t1⟩
    | 1, _ => exact ⟨rfl, t2⟩
    | 2, _ => exact ⟨rfl, t3⟩
    | 3, _ => exact ⟨rfl, t4⟩
theorem below_cell {w w' : World} {b o : Nat} {v : Value} (h : Below w.heap.size w w') (hb : b < w.heap.size) (hc : w.cell? ⟨b, o, none⟩ = some v) : w'.cell? ⟨b, o, none⟩ = some v := by
  rw [show w'.cell? ⟨b, o, none⟩ = w.cell? ⟨b, o, none⟩ by simp [World.cell?, h.block b hb]]; exact hc
theorem lit_row {α : Type} {k : Nat} {f : α → List Value} (hf : ∀ x, (f x).length = k) (e : TypeId) (w w1 w' : World) (n : Nat) (hn : w.heap.size = n) (l : List α) (hl : l.length ≤ 10) (hw : w1 = w.alloc (.cells (l.flatMap f).toArray e)) (hb : Below w1.heap.size w1 w') : RowC k f w' w'.heap.size (.slice (some ⟨n, 0, none⟩) l.length l.length) l := by
  subst hw
  have := (rowC_lit (f := f) hf e l w (by simp only [maxLen]; omega)).rowC hf
  rw [hn] at this
  exact this.step hb
theorem side_lit (w : World) :
    Below w.heap.size w (((w.alloc (.cells #[vs [107], vs [49], .int .i64 0] 85)).alloc (.cells #[.int .i64 1, vs [49], vs [65, 32, 98], .int .i64 0, .int .i64 2, vs [49, 46, 49], vs [67], .int .i64 0] 86)).alloc (.cells #[vs [120]] 9)) ∧
    RowC 3 labF (((w.alloc (.cells #[vs [107], vs [49], .int .i64 0] 85)).alloc (.cells #[.int .i64 1, vs [49], vs [65, 32, 98], .int .i64 0, .int .i64 2, vs [49, 46, 49], vs [67], .int .i64 0] 86)).alloc (.cells #[vs [120]] 9)) (((w.alloc (.cells #[vs [107], vs [49], .int .i64 0] 85)).alloc (.cells #[.int .i64 1, vs [49], vs [65, 32, 98], .int .i64 0, .int .i64 2, vs [49, 46, 49], vs [67], .int .i64 0] 86)).alloc (.cells #[vs [120]] 9)).heap.size (.slice (some ⟨w.heap.size, 0, none⟩) 1 1) [⟨[107], [49], 0⟩] ∧
    RowC 4 hdF (((w.alloc (.cells #[vs [107], vs [49], .int .i64 0] 85)).alloc (.cells #[.int .i64 1, vs [49], vs [65, 32, 98], .int .i64 0, .int .i64 2, vs [49, 46, 49], vs [67], .int .i64 0] 86)).alloc (.cells #[vs [120]] 9)) (((w.alloc (.cells #[vs [107], vs [49], .int .i64 0] 85)).alloc (.cells #[.int .i64 1, vs [49], vs [65, 32, 98], .int .i64 0, .int .i64 2, vs [49, 46, 49], vs [67], .int .i64 0] 86)).alloc (.cells #[vs [120]] 9)).heap.size (.slice (some ⟨w.heap.size + 1, 0, none⟩) 2 2) [⟨1, [49], [65, 32, 98], 0⟩, ⟨2, [49, 46, 49], [67], 0⟩] ∧
    RowC 1 txF (((w.alloc (.cells #[vs [107], vs [49], .int .i64 0] 85)).alloc (.cells #[.int .i64 1, vs [49], vs [65, 32, 98], .int .i64 0, .int .i64 2, vs [49, 46, 49], vs [67], .int .i64 0] 86)).alloc (.cells #[vs [120]] 9)) (((w.alloc (.cells #[vs [107], vs [49], .int .i64 0] 85)).alloc (.cells #[.int .i64 1, vs [49], vs [65, 32, 98], .int .i64 0, .int .i64 2, vs [49, 46, 49], vs [67], .int .i64 0] 86)).alloc (.cells #[vs [120]] 9)).heap.size (.slice (some ⟨w.heap.size + 1 + 1, 0, none⟩) 1 1) [[120]] := by
  obtain ⟨w1, hw1⟩ : ∃ w1, w1 = w.alloc (.cells #[vs [107], vs [49], .int .i64 0] 85) := ⟨_, rfl⟩
  obtain ⟨w2, hw2⟩ : ∃ w2, w2 = w1.alloc (.cells #[.int .i64 1, vs [49], vs [65, 32, 98], .int .i64 0, .int .i64 2, vs [49, 46, 49], vs [67], .int .i64 0] 86) := ⟨_, rfl⟩
  obtain ⟨w3, hw3⟩ : ∃ w3, w3 = w2.alloc (.cells #[vs [120]] 9) := ⟨_, rfl⟩
  have s1 : w1.heap.size = w.heap.size + 1 := by rw [hw1]; simp
  have s2 : w2.heap.size = w.heap.size + 1 + 1 := by rw [hw2]; simp [s1]
  have b1 : Below w.heap.size w w1 := by rw [hw1]; exact (Below.refl _ _).alloc (Nat.le_refl _) _
  have b2 : Below w1.heap.size w1 w2 := by rw [hw2]; exact (Below.refl _ _).alloc (Nat.le_refl _) _
  have b3 : Below w2.heap.size w2 w3 := by rw [hw3]; exact (Below.refl _ _).alloc (Nat.le_refl _) _
  rw [← hw1, ← hw2, ← hw3]
  exact ⟨below_via (below_via b1 b2) b3, lit_row labF_len 85 w w1 w3 _ rfl [⟨[107], [49], 0⟩] (by decide) hw1 (below_via b2 b3), lit_row hdF_len 86 w1 w2 w3 _ s1 [⟨1, [49], [65, 32, 98], 0⟩, ⟨2, [49, 46, 49], [67], 0⟩] (by decide) hw2 b3, lit_row txF_len 9 w2 w3 w3 _ s2 [[120]] (by decide) hw3 (Below.refl _ _)⟩
theorem row_none {α : Type} (f : α → List Value) (k B : Nat) (w : World) : RowC k f w B (.slice none 0 0) [] := ⟨0, by simp, by simp [maxLen], .inl ⟨rfl, none, rfl⟩⟩
set_option maxRecDepth 100000 in
set_option maxHeartbeats 16000000 in
theorem fixed_any (w : World) (hg : ∀ wx, Below w.heap.size w wx → Gl wx) : Calls Tryz.prog 15 #[] w fun e w' => e = .returned (.bool true) ∧ Below w.heap.size w w' := by
  obtain ⟨hb5, hnum⟩ := fixed_num w hg
  have HB5 := Lib.hid hb5
  have HNM := Lib.hid hnum
  clear hg hb5 hnum
  go_enter Tryz.func15, Tryz.ntmps15
  go_wp2_with fail
  refine HNM.out.mono ?_
  rintro e w6 ⟨v, rfl, ho, bw⟩
  have h0 := ow_out ho
  have HB6 := Lib.hid (below_via HB5.out bw)
  obtain ⟨B0, n0, b0, hv0⟩ : ∃ A n c, v 0 = .slice A n c := by obtain ⟨u, hu, _⟩ := h0.bl; obtain ⟨A, c, e, _⟩ := hu.shape; exact ⟨A, _, c, e⟩
  obtain ⟨B1, n1, b1, hv1⟩ : ∃ A n c, v 1 = .slice A n c := by obtain ⟨A, c, e, _⟩ := h0.lb.shape; exact ⟨A, _, c, e⟩
  obtain ⟨B2, n2, b2, hv2⟩ : ∃ A n c, v 2 = .slice A n c := by obtain ⟨A, c, e, _⟩ := h0.hd.shape; exact ⟨A, _, c, e⟩
  obtain ⟨B3, n3, b3, hv3⟩ : ∃ A n c, v 3 = .slice A n c := by obtain ⟨A, c, e, _⟩ := h0.ci.shape; exact ⟨A, _, c, e⟩
  obtain ⟨B4, n4, b4, hv4⟩ : ∃ A n c, v 4 = .slice A n c := by obtain ⟨A, c, e, _⟩ := h0.bb.shape; exact ⟨A, _, c, e⟩
  obtain ⟨B5, n5, b5, hv5⟩ : ∃ A n c, v 5 = .slice A n c := by obtain ⟨A, c, e, _⟩ := h0.la.shape; exact ⟨A, _, c, e⟩
  obtain ⟨B6, n6, b6, hv6⟩ : ∃ A n c, v 6 = .slice A n c := by obtain ⟨A, c, e, _⟩ := h0.ha.shape; exact ⟨A, _, c, e⟩
  obtain ⟨B7, n7, b7, hv7⟩ : ∃ A n c, v 7 = .slice A n c := by obtain ⟨A, c, e, _⟩ := h0.ia.shape; exact ⟨A, _, c, e⟩
  obtain ⟨B8, n8, b8, hv8⟩ : ∃ A n c, v 8 = .slice A n c := by obtain ⟨A, c, e, _⟩ := h0.ix.shape; exact ⟨A, _, c, e⟩
  obtain ⟨B9, n9, b9, hv9⟩ : ∃ A n c, v 9 = .slice A n c := by obtain ⟨A, c, e, _⟩ := h0.nt.shape; exact ⟨A, _, c, e⟩
  rw [hv0, hv1, hv2, hv3, hv4, hv5, hv6, hv7, hv8, hv9]
  obtain ⟨r1, r2, r3, r4, r5, r6, r7, r8⟩ := run0
  have qHBL := h0.bl
  rw [r1, hv0] at qHBL
  have HBL := Lib.hid qHBL
  clear qHBL
  have qHLB := h0.lb
  rw [r2, hv1] at qHLB
  have HLB := Lib.hid qHLB
  clear qHLB
  have qHHD := h0.hd
  rw [r3, hv2] at qHHD
  have HHD := Lib.hid qHHD
  clear qHHD
  have qHCI := h0.ci
  rw [r4, hv3] at qHCI
  have HCI := Lib.hid qHCI
  clear qHCI
  have qHBB := h0.bb
  rw [r5, hv4] at qHBB
  have HBB := Lib.hid qHBB
  clear qHBB
  have qHLA := h0.la
  rw [r6, hv5] at qHLA
  have HLA := Lib.hid qHLA
  clear qHLA
  have qHHA := h0.ha
  rw [r7, hv6] at qHHA
  have HHA := Lib.hid qHHA
  clear qHHA
  have qHNT := h0.nt
  rw [r8, hv9] at qHNT
  have HNT := Lib.hid qHNT
  clear qHNT
  clear h0 ho bw r1 r2 r3 r4 r5 r6 r7 r8 HNM HB5 hv0 hv1 hv2 hv3 hv4 hv5 hv6 hv7 hv8 hv9
  go_wp2_with fail
  obtain ⟨hBW, hWANT⟩ := want_row (w6.alloc (.cells #[.slice B0 n0 b0, .slice B1 n1 b1, .slice B2 n2 b2, .slice B3 n3 b3, .slice B4 n4 b4, .slice B5 n5 b5, .slice B6 n6 b6, .slice B7 n7 b7, .slice B8 n8 b8, .slice B9 n9 b9] 40)) (w6.heap.size + 1) (by simp)
  have hB7 := below_via ((Below.refl w6.heap.size w6).alloc (Nat.le_refl _) (.cells #[.slice B0 n0 b0, .slice B1 n1 b1, .slice B2 n2 b2, .slice B3 n3 b3, .slice B4 n4 b4, .slice B5 n5 b5, .slice B6 n6 b6, .slice B7 n7 b7, .slice B8 n8 b8, .slice B9 n9 b9] 40)) hBW
  have hsz : (w6.alloc (.cells #[.slice B0 n0 b0, .slice B1 n1 b1, .slice B2 n2 b2, .slice B3 n3 b3, .slice B4 n4 b4, .slice B5 n5 b5, .slice B6 n6 b6, .slice B7 n7 b7, .slice B8 n8 b8, .slice B9 n9 b9] 40)).heap.size = w6.heap.size + 1 := by simp
  have q5 := Lib.hid (below_cell hBW (by rw [hsz]; exact Nat.lt_succ_self _) (show (w6.alloc (.cells #[.slice B0 n0 b0, .slice B1 n1 b1, .slice B2 n2 b2, .slice B3 n3 b3, .slice B4 n4 b4, .slice B5 n5 b5, .slice B6 n6 b6, .slice B7 n7 b7, .slice B8 n8 b8, .slice B9 n9 b9] 40)).cell? ⟨w6.heap.size, 5, none⟩ = some (.slice B5 n5 b5) by rw [Lib.cell_of_heap (heap_alloc_new _ _)]; rfl))
  have q6 := Lib.hid (below_cell hBW (by rw [hsz]; exact Nat.lt_succ_self _) (show (w6.alloc (.cells #[.slice B0 n0 b0, .slice B1 n1 b1, .slice B2 n2 b2, .slice B3 n3 b3, .slice B4 n4 b4, .slice B5 n5 b5, .slice B6 n6 b6, .slice B7 n7 b7, .slice B8 n8 b8, .slice B9 n9 b9] 40)).cell? ⟨w6.heap.size, 6, none⟩ = some (.slice B6 n6 b6) by rw [Lib.cell_of_heap (heap_alloc_new _ _)]; rfl))
  have q9 := Lib.hid (below_cell hBW (by rw [hsz]; exact Nat.lt_succ_self _) (show (w6.alloc (.cells #[.slice B0 n0 b0, .slice B1 n1 b1, .slice B2 n2 b2, .slice B3 n3 b3, .slice B4 n4 b4, .slice B5 n5 b5, .slice B6 n6 b6, .slice B7 n7 b7, .slice B8 n8 b8, .slice B9 n9 b9] 40)).cell? ⟨w6.heap.size, 9, none⟩ = some (.slice B9 n9 b9) by rw [Lib.cell_of_heap (heap_alloc_new _ _)]; rfl))
  have z7 := Lib.hid (Nat.le_trans (Nat.le_of_eq hsz.symm) hBW.size)
  have HB7 := Lib.hid hB7
  have HX := Lib.hid (blocks_any _ _ _ (HBL.out.step hB7) hWANT (by decide) (by decide))
  clear hBW hWANT hB7 HBL hsz
  refine HX.out.mono ?_
  rintro e w7' ⟨rfl, n7', rfl⟩
  clear HX
  go_wp2_with fail
  generalize hw7 : World.drewN _ n7' = w7
  have y7 : Below w6.heap.size w6 w7 := by rw [← hw7]; exact below_drewN HB7.out n7'
  have k7 : w6.heap.size + 1 ≤ w7.heap.size := by rw [← hw7]; exact z7.out
  have c5 : w7.cell? ⟨w6.heap.size, 5, none⟩ = some (.slice B5 n5 b5) := by rw [← hw7]; exact q5.out
  have c6 : w7.cell? ⟨w6.heap.size, 6, none⟩ = some (.slice B6 n6 b6) := by rw [← hw7]; exact q6.out
  have c9 : w7.cell? ⟨w6.heap.size, 9, none⟩ = some (.slice B9 n9 b9) := by rw [← hw7]; exact q9.out
  clear hw7 HB7 q5 q6 q9 z7
  have Y7 := Lib.hid y7
  have Z7 := Lib.hid k7
  have C5 := Lib.hid c5
  have C6 := Lib.hid c6
  have C9 := Lib.hid c9
  clear y7 k7 c5 c6 c9
  have HX := Lib.hid (ref_any (.slice B1 n1 b1) (.slice B2 n2 b2) (.slice B3 n3 b3) (.slice B4 n4 b4) _ _ (HLB.out.step Y7.out) (HHD.out.step Y7.out) (by decide) (by decide) ⟨_, _, _, rfl⟩ ⟨_, _, _, rfl⟩)
  refine HX.out.mono ?_
  rintro e w8 ⟨u1, u2, rfl, o1, o2, y8⟩
  have R1 := Lib.hid (o1.rowC labF_len)
  have R2 := Lib.hid (o2.rowC hdF_len)
  have Y8 := Lib.hid y8
  clear HX HLB HHD o1 o2 y8
  obtain ⟨U1, p1, d1, rfl⟩ : ∃ A n c, u1 = .slice A n c := by obtain ⟨A, c, e, _⟩ := R1.out.shape; exact ⟨A, _, c, e⟩
  obtain ⟨U2, p2, d2, rfl⟩ : ∃ A n c, u2 = .slice A n c := by obtain ⟨A, c, e, _⟩ := R2.out.shape; exact ⟨A, _, c, e⟩
  go_wp2_with fail
  obtain ⟨l0, l1, l2, l3⟩ := side_lit w8
  have Y68 := Lib.hid (below_via Y7.out Y8.out)
  have HX := Lib.hid (same_any _ _ _ _ _ _ _ _ _ _ _ _ (R1.out.step l0) (R2.out.step l0) ((HCI.out.step Y68.out).step l0) ((HBB.out.step Y68.out).step l0) l1 l2 l3 (row_none txF 1 _ _) (by decide) (by decide) (by decide) (by decide))
  have L0' := Lib.hid l0
  clear l0 l1 l2 l3 R1 R2 HCI HBB
  refine HX.out.mono ?_
  rintro e w9 ⟨rfl, y9⟩
  have Y9 := Lib.hid (below_via Y8.out (below_via L0'.out y9))
  have Y69 := Lib.hid (below_via Y68.out (below_via L0'.out y9))
  clear y9 HX L0' Y8 Y68
  have x5 := below_cell Y9.out (Nat.lt_of_succ_le Z7.out) C5.out
  go_wp2_with fail
  clear x5
  have la := (Below.refl w9.heap.size w9).alloc (Nat.le_refl _) (.cells #[.int .i64 3] 3)
  have HX := Lib.hid (rInts_any _ _ _ _ _ _ (w9.alloc (.cells #[.int .i64 3] 3)) (ints_row ((HLA.out.step Y69.out).step la)) (ints_row (lit_row (f := inF) (fun _ => rfl) 3 w9 _ _ _ rfl [3] (by decide) rfl (Below.refl _ _))))
  have YA := Lib.hid la
  clear la
  refine HX.out.mono ?_
  rintro e wA' ⟨rfl, nA, rfl⟩
  clear HX
  have yA := below_drewN YA.out nA
  generalize hwA : World.drewN _ nA = wA at yA
  clear hwA YA
  have YA := Lib.hid (below_via Y9.out yA)
  have Y6A := Lib.hid (below_via Y69.out yA)
  clear yA Y9 Y69
  simp only [decide_true]
  have x6 := below_cell YA.out (Nat.lt_of_succ_le Z7.out) C6.out
  go_wp2_with fail
  clear x6
  have la := (Below.refl wA.heap.size wA).alloc (Nat.le_refl _) (.cells #[.int .i64 0, .int .i64 5] 3)
  have HX := Lib.hid (rInts_any _ _ _ _ _ _ (wA.alloc (.cells #[.int .i64 0, .int .i64 5] 3)) (ints_row ((HHA.out.step Y6A.out).step la)) (ints_row (lit_row (f := inF) (fun _ => rfl) 3 wA _ _ _ rfl [0, 5] (by decide) rfl (Below.refl _ _))))
  have YB := Lib.hid la
  clear la
  refine HX.out.mono ?_
  rintro e wB' ⟨rfl, nB, rfl⟩
  clear HX
  have yB := below_drewN YB.out nB
  generalize hwB : World.drewN _ nB = wB at yB
  clear hwB YB
  have YB := Lib.hid (below_via YA.out yB)
  have Y6B := Lib.hid (below_via Y6A.out yB)
  clear yB YA Y6A
  simp only [decide_true]
  have x9 := below_cell YB.out (Nat.lt_of_succ_le Z7.out) C9.out
  go_wp2_with fail
  clear x9
  have la := (Below.refl wB.heap.size wB).alloc (Nat.le_refl _) (.cells #[.int .i64 13, vs [122]] 92)
  have HX := Lib.hid (rnotes_any (q := true) _ _ _ _ (by simp) (wB.alloc (.cells #[.int .i64 13, vs [122]] 92)) ((HNT.out.step Y6B.out).step la) (lit_row (f := ntF) (fun _ => rfl) 92 wB _ _ _ rfl [((13 : Int), [122])] (by decide) rfl (Below.refl _ _)) (by decide) (by decide))
  have YC := Lib.hid la
  clear la
  refine HX.out.mono ?_
  rintro e wC' ⟨rfl, nC, rfl⟩
  clear HX
  have yC := below_drewN YC.out nC
  generalize hwC : World.drewN _ nC = wC at yC
  clear hwC YC
  have YC := Lib.hid (below_via HB6.out (below_via Y6B.out yC))
  clear yC YB Y6B
  go_wp2_with fail
  go_ret
  exact ⟨by simp, YC.out⟩
end Go.Proofs.YtjmmfihmamcopaaGreatDoor
