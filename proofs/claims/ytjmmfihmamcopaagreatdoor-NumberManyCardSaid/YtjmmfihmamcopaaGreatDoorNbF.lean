/- side.Find. -/
import Derived.Test.YtjmmfihmamcopaaGreatDoorNbC
namespace Go.Proofs.YtjmmfihmamcopaaGreatDoor
open Go.RowKit Tx Nb

theorem bs_beq (a b : Bs) : ((bs a).toList == (bs b).toList) = (a == b) := by rw [toList_bs, toList_bs]
theorem cells3 {w : World} {g : Nat} {a b c : Value} {t : TypeId} (h : w.heap[g]? = some (.cells #[a, b, c] t (0, 0))) :
    w.cell? ⟨g, 0, none⟩ = some a ∧ w.cell? ⟨g, 1, none⟩ = some b ∧ w.cell? ⟨g, 2, none⟩ = some c ∧ w.frozen? ⟨g, 0, none⟩ = false ∧ w.frozen? ⟨g, 1, none⟩ = false ∧ w.frozen? ⟨g, 2, none⟩ = false := by
  simp [World.cell?, World.frozen?, h]
theorem set3_same {w : World} {g : Nat} {a b c x y z : Value} {t : TypeId} (h : w.heap[g]? = some (.cells #[a, b, c] t (0, 0))) :
    (((w.setCell ⟨g, 0, none⟩ x).setCell ⟨g, 1, none⟩ y).setCell ⟨g, 2, none⟩ z).heap[g]? = some (.cells #[x, y, z] t (0, 0)) := cells_set (cells_set (cells_set h x) y) z
theorem set3_below {B : Nat} {a w : World} (h : Below B a w) {g : Nat} (hg : B ≤ g) (x y z : Value) : Below B a (((w.setCell ⟨g, 0, none⟩ x).setCell ⟨g, 1, none⟩ y).setCell ⟨g, 2, none⟩ z) :=
  ((h.setCell (p := ⟨g, 0, none⟩) hg x).setCell (p := ⟨g, 1, none⟩) hg y).setCell (p := ⟨g, 2, none⟩) hg z
/-- What is found, as it is returned. -/
def foundV (l : List Lab) (k : Bs) : Value := match find l k with
  | some x => .tuple #[.agg #[vs x.key, vs x.num, .int .i64 x.page], .bool true]
  | none => .tuple #[.agg #[vs [], vs [], .int .i64 0], .bool false]
theorem find_none {l : List Lab} {k : Bs} (h : (l.any fun x => x.key == k) = false) : find l k = none := by
  unfold find
  rw [List.find?_eq_none]
  intro x hx
  exact List.any_eq_false.1 h x hx
theorem find_at {l : List Lab} {k : Bs} {j : Nat} (hj : j < l.length) (h1 : ((l.take j).any fun x => x.key == k) = false) (h2 : (l[j].key == k) = true) : find l k = some l[j] := by
  unfold find
  rw [List.find?_eq_some_iff_getElem]
  refine ⟨h2, j, hj, rfl, fun i hi => ?_⟩
  have := List.any_eq_false.1 h1 l[i] (List.mem_take_iff_getElem.2 ⟨i, by omega, rfl⟩)
  simpa using this
set_option maxRecDepth 100000 in
set_option maxHeartbeats 4000000 in
theorem find_any {w : World} (vl vh vc vb : Value) (l : List Lab) (k : Bs) (hr : RowC 3 labF w w.heap.size vl l) (_hn : l.length < 1000000) :
    Calls Tryz.prog 50 #[.agg #[vl, vh, vc, vb], vs k] w fun e w' => e = .returned (foundV l k) ∧ Below w.heap.size w w' := by
  obtain ⟨A, c, rfl, h1, h2, h3⟩ := hr.shape
  have HC := Lib.hid h3
  have hb0 : Below w.heap.size w ((w.alloc (.cells #[.slice A l.length c, vh, vc, vb] 27)).alloc (.cells #[.string ⟨#[]⟩, .string ⟨#[]⟩, .int .i64 0] 63)) := ((Below.refl _ _).alloc (Nat.le_refl _) _).alloc (by simp) _
  have HB0 := Lib.hid hb0
  have hz : ((w.alloc (.cells #[.slice A l.length c, vh, vc, vb] 27)).alloc (.cells #[.string ⟨#[]⟩, .string ⟨#[]⟩, .int .i64 0] 63)).heap[w.heap.size + 1]? = some (.cells #[.string ⟨#[]⟩, .string ⟨#[]⟩, .int .i64 0] 63) := by
    have := heap_alloc_new (w.alloc (.cells #[.slice A l.length c, vh, vc, vb] 27)) (.cells #[.string ⟨#[]⟩, .string ⟨#[]⟩, .int .i64 0] 63)
    simpa using this
  have HZ := Lib.hid hz
  clear hr h3 hb0 hz
  go_enter Tryz.func50, Tryz.ntmps50
  go_wp2_with fail
  go_loopw [11] (fun i wr => ∃ j : Nat, j ≤ l.length ∧ i = .int .i64 j ∧ ((l.take j).any fun x => x.key == k) = false ∧ Below w.heap.size w wr ∧ wr.heap[w.heap.size + 1]? = some (.cells #[.string ⟨#[]⟩, .string ⟨#[]⟩, .int .i64 0] 63)) (fun i _ => l.length - (RowKit.intOf i).toNat)
  case atStart => exact ⟨0, Nat.zero_le _, rfl, rfl, HB0.out, HZ.out⟩
  case round =>
    obtain ⟨j, hj, rfl, hno, hbel, hres⟩ := hrel
    have HNO := Lib.hid hno
    have HBL := Lib.hid hbel
    have HRS := Lib.hid hres
    by_cases hjt : j < l.length
    · have hi : (j : Int) < (l.length : Int) := by omega
      have hi0 : (0 : Int) ≤ (j : Int) := by omega
      obtain ⟨b, off, rfl, hbl, hc⟩ := HC.out (by intro e; rw [e] at hjt; simp at hjt)
      have c0 := (hbel.cell (p := ⟨b, off + j * 3, none⟩) hbl).trans (hc j hjt 0 _ rfl)
      have c1 := (hbel.cell (p := ⟨b, off + j * 3 + 1, none⟩) hbl).trans (hc j hjt 1 _ rfl)
      have c2 := (hbel.cell (p := ⟨b, off + j * 3 + 2, none⟩) hbl).trans (hc j hjt 2 _ rfl)
      have HF := Lib.hid (fun h2 => find_at (k := k) hjt hno h2)
      have HT : Hid (l.take (j + 1) = l.take j ++ [l[j]]) := Lib.hid (List.take_succ_eq_append_getElem hjt)
      generalize l[j] = x at *
      clear hc hno hbel hres
      by_cases hk : x.key = k
      · have he : ((bs x.key).toList == (bs k).toList) = true := by rw [bs_beq]; simp [hk]
        have HFX := Lib.hid (HF.out (by simp [hk]))
        have hr1 : (wr.alloc (.cells #[.string (bs x.key), .string (bs x.num), .int .i64 x.page] 63)).heap[w.heap.size + 1]? = some (.cells #[.string ⟨#[]⟩, .string ⟨#[]⟩, .int .i64 0] 63) := (Below.heap_alloc _ _ _ (lt_of_block HRS.out)).trans HRS.out
        have HR1 := Lib.hid hr1
        obtain ⟨d0, d1, d2, f0, f1, f2⟩ := cells3 hr1
        clear hk hr1
        go_wp2_with fail
        have hg2 := set3_same (x := .string (bs x.key)) (y := .string (bs x.num)) (z := .int .i64 x.page) HR1.out
        obtain ⟨d0, d1, d2, _, _, _⟩ := cells3 hg2
        refine bodyPost_ret (v := .tuple #[.agg #[.string (bs x.key), .string (bs x.num), .int .i64 x.page], .bool true]) (by
          simp [results, Tryz.f50, go_sem, d0, d1, d2]) rfl ⟨?_, set3_below (HBL.out.alloc HBL.out.size _) (by simp) _ _ _⟩
        unfold foundV
        rw [HFX.out]
      · have he : ((bs x.key).toList == (bs k).toList) = false := by rw [bs_beq]; simp [hk]
        have HK : Hid ((x.key == k) = false) := Lib.hid (by simp [hk])
        clear hk
        go_wp2_with fail
        go_roundw
        case rel => exact ⟨j + 1, by omega, by go_num, by rw [HT.out, List.any_append, HNO.out]; simp [HK.out], HBL.out.alloc HBL.out.size _, (Below.heap_alloc _ _ _ (lt_of_block HRS.out)).trans HRS.out⟩
        case measure => simp [RowKit.intOf]; omega
    · obtain rfl : j = l.length := by omega
      have hi : ¬ (l.length : Int) < (l.length : Int) := by omega
      obtain ⟨d0, d1, d2, f0, f1, f2⟩ := cells3 hres
      have HNN := Lib.hid (find_none (l := l) (k := k) (by rw [List.take_length] at hno; exact hno))
      clear hno hbel hres
      go_wp2_with fail
      have hg2 := set3_same (x := .string ⟨#[]⟩) (y := .string ⟨#[]⟩) (z := .int .i64 0) HRS.out
      obtain ⟨d0, d1, d2, _, _, _⟩ := cells3 hg2
      refine bodyPost_ret (v := .tuple #[.agg #[.string ⟨#[]⟩, .string ⟨#[]⟩, .int .i64 0], .bool false]) (by
        simp [results, Tryz.f50, go_sem, d0, d1, d2]) rfl ⟨?_, set3_below HBL.out (by simp) _ _ _⟩
      unfold foundV
      rw [HNN.out]
      rfl
end Go.Proofs.YtjmmfihmamcopaaGreatDoor
