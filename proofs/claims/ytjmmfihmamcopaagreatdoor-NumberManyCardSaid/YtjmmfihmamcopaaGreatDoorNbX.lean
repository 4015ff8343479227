/- stetlaw11.fixed. -/
import Derived.Test.YtjmmfihmamcopaaGreatDoorNbG
namespace Go.Proofs.YtjmmfihmamcopaaGreatDoor
open Go.RowKit Tx Nb

theorem ciF_len (x : Ci) : (ciF x).length = 3 := rfl
/-- The call that the document fixes. -/
theorem fixed_num (w : World) (hg : ∀ wx, Below w.heap.size w wx → Gl wx) :
    Below w.heap.size w (((((w.alloc (.cells #[.int .i64 4, vs [65, 32, 98], .int .i64 6, vs [107], .int .i64 7, vs [107], .int .i64 1, vs [46], .int .i64 2, vs [], .int .i64 9, vs [120], .int .i64 7, vs [122], .int .i64 5, vs [67], .int .i64 14, vs []] 59)).alloc (.cells #[vs [107], vs [49], .int .i64 2] 63)).alloc (.cells #[.int .i64 2, vs [49, 46, 49], vs [67], .int .i64 3] 65)).alloc (.cells #[.slice (some ⟨w.heap.size + 1, 0, none⟩) 1 1, .slice (some ⟨w.heap.size + 1 + 1, 0, none⟩) 1 1, .slice none 0 0, .slice none 0 0] 27)).alloc (.cells #[vs [120], vs [88, 57, 57], vs [116]] 67)) ∧
    Calls Tryz.prog 10 #[.slice (some ⟨w.heap.size, 0, none⟩) 9 9, .agg #[.slice (some ⟨w.heap.size + 1, 0, none⟩) 1 1, .slice (some ⟨w.heap.size + 1 + 1, 0, none⟩) 1 1, .slice none 0 0, .slice none 0 0], .slice (some ⟨w.heap.size + 1 + 1 + 1 + 1, 0, none⟩) 1 1, .slice none 0 0]
      (((((w.alloc (.cells #[.int .i64 4, vs [65, 32, 98], .int .i64 6, vs [107], .int .i64 7, vs [107], .int .i64 1, vs [46], .int .i64 2, vs [], .int .i64 9, vs [120], .int .i64 7, vs [122], .int .i64 5, vs [67], .int .i64 14, vs []] 59)).alloc (.cells #[vs [107], vs [49], .int .i64 2] 63)).alloc (.cells #[.int .i64 2, vs [49, 46, 49], vs [67], .int .i64 3] 65)).alloc (.cells #[.slice (some ⟨w.heap.size + 1, 0, none⟩) 1 1, .slice (some ⟨w.heap.size + 1 + 1, 0, none⟩) 1 1, .slice none 0 0, .slice none 0 0] 27)).alloc (.cells #[vs [120], vs [88, 57, 57], vs [116]] 67))
      (NumPost (((((w.alloc (.cells #[.int .i64 4, vs [65, 32, 98], .int .i64 6, vs [107], .int .i64 7, vs [107], .int .i64 1, vs [46], .int .i64 2, vs [], .int .i64 9, vs [120], .int .i64 7, vs [122], .int .i64 5, vs [67], .int .i64 14, vs []] 59)).alloc (.cells #[vs [107], vs [49], .int .i64 2] 63)).alloc (.cells #[.int .i64 2, vs [49, 46, 49], vs [67], .int .i64 3] 65)).alloc (.cells #[.slice (some ⟨w.heap.size + 1, 0, none⟩) 1 1, .slice (some ⟨w.heap.size + 1 + 1, 0, none⟩) 1 1, .slice none 0 0, .slice none 0 0] 27)).alloc (.cells #[vs [120], vs [88, 57, 57], vs [116]] 67)) (run E0 L0)) := by
  have rI := (rowC_lit (f := itF) itF_len 59 L0 w (by decide)).rowC itF_len
  obtain ⟨w1, hw1⟩ : ∃ w1, w1 = w.alloc (.cells #[.int .i64 4, vs [65, 32, 98], .int .i64 6, vs [107], .int .i64 7, vs [107], .int .i64 1, vs [46], .int .i64 2, vs [], .int .i64 9, vs [120], .int .i64 7, vs [122], .int .i64 5, vs [67], .int .i64 14, vs []] 59) := ⟨_, rfl⟩
  have rI1 : RowC 2 itF w1 w1.heap.size (.slice (some ⟨w.heap.size, 0, none⟩) 9 9) L0 := by rw [hw1]; exact rI
  have s1 : w1.heap.size = w.heap.size + 1 := by rw [hw1]; simp
  have b1 : Below w.heap.size w w1 := by rw [hw1]; exact (Below.refl _ _).alloc (Nat.le_refl _) _
  rw [← hw1]
  clear hw1 rI
  have rL := (rowC_lit (f := labF) labF_len 63 E0.labels w1 (by decide)).rowC labF_len
  obtain ⟨w2, hw2⟩ : ∃ w2, w2 = w1.alloc (.cells #[vs [107], vs [49], .int .i64 2] 63) := ⟨_, rfl⟩
  have rL2 : RowC 3 labF w2 w2.heap.size (.slice (some ⟨w.heap.size + 1, 0, none⟩) 1 1) E0.labels := by rw [hw2, ← s1]; exact rL
  have s2 : w2.heap.size = w.heap.size + 1 + 1 := by rw [hw2]; simp [s1]
  have b2 : Below w1.heap.size w1 w2 := by rw [hw2]; exact (Below.refl _ _).alloc (Nat.le_refl _) _
  rw [← hw2]
  clear hw2 rL
  have rH := (rowC_lit (f := hdF) hdF_len 65 E0.heads w2 (by decide)).rowC hdF_len
  obtain ⟨w3, hw3⟩ : ∃ w3, w3 = w2.alloc (.cells #[.int .i64 2, vs [49, 46, 49], vs [67], .int .i64 3] 65) := ⟨_, rfl⟩
  have rH3 : RowC 4 hdF w3 w3.heap.size (.slice (some ⟨w.heap.size + 1 + 1, 0, none⟩) 1 1) E0.heads := by rw [hw3, ← s2]; exact rH
  have s3 : w3.heap.size = w.heap.size + 1 + 1 + 1 := by rw [hw3]; simp [s2]
  have b3 : Below w2.heap.size w2 w3 := by rw [hw3]; exact (Below.refl _ _).alloc (Nat.le_refl _) _
  rw [← hw3]
  clear hw3 rH
  obtain ⟨w4, hw4⟩ : ∃ w4, w4 = w3.alloc (.cells #[.slice (some ⟨w.heap.size + 1, 0, none⟩) 1 1, .slice (some ⟨w.heap.size + 1 + 1, 0, none⟩) 1 1, .slice none 0 0, .slice none 0 0] 27) := ⟨_, rfl⟩
  have s4 : w4.heap.size = w.heap.size + 1 + 1 + 1 + 1 := by rw [hw4]; simp [s3]
  have b4 : Below w3.heap.size w3 w4 := by rw [hw4]; exact (Below.refl _ _).alloc (Nat.le_refl _) _
  rw [← hw4]
  clear hw4
  have rB := (rowC_lit (f := ciF) ciF_len 67 E0.bbl w4 (by decide)).rowC ciF_len
  obtain ⟨w5, hw5⟩ : ∃ w5, w5 = w4.alloc (.cells #[vs [120], vs [88, 57, 57], vs [116]] 67) := ⟨_, rfl⟩
  have rB5 : RowC 3 ciF w5 w5.heap.size (.slice (some ⟨w.heap.size + 1 + 1 + 1 + 1, 0, none⟩) 1 1) E0.bbl := by rw [hw5, ← s4]; exact rB
  have b5 : Below w4.heap.size w4 w5 := by rw [hw5]; exact (Below.refl _ _).alloc (Nat.le_refl _) _
  rw [← hw5]
  clear hw5 rB
  have b12 := below_via b1 b2
  have b13 := below_via b12 b3
  have b14 := below_via b13 b4
  have b15 := below_via b14 b5
  refine ⟨b15, number_any _ _ _ _ _ _ _ L0 ((((rI1.step b2).step b3).step b4).step b5) (by decide) (by decide) ⟨((((rL2.step b3).step b4).step b5)), ((rH3.step b4).step b5), rB5, ⟨0, by simp [E0], by decide, .inl ⟨rfl, none, rfl⟩⟩, E0_ok, fun wx hb => hg wx (below_via b15 hb)⟩ ⟨_, _, _, rfl⟩ ⟨_, _, _, rfl⟩⟩
end Go.Proofs.YtjmmfihmamcopaaGreatDoor
