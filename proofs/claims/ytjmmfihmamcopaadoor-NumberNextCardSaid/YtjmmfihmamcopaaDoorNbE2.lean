/- stetref08.Notes; stetlaw10.Same. -/
import Derived.Test.YtjmmfihmamcopaaDoorNbE
namespace Go.Proofs.YtjmmfihmamcopaaDoor
open Go.RowKit Tx Nb

instance : DecidableEq Lab := fun a b => decidable_of_iff (a.key = b.key ∧ a.num = b.num ∧ a.page = b.page) (by cases a; cases b; simp)
instance : DecidableEq Hd := fun a b => decidable_of_iff (a.level = b.level ∧ a.num = b.num ∧ a.title = b.title ∧ a.page = b.page) (by cases a; cases b; simp)
theorem nt_all (p q : Int × Bs) : [p.1 == q.1, p.2 == q.2].all id = decide (p = q) := by
  obtain ⟨a, b⟩ := p
  obtain ⟨c, d⟩ := q
  by_cases h1 : a = c <;> by_cases h2 : b = d <;> simp [h1, h2]
theorem lb_all (p q : Lab) : [p.key == q.key, p.num == q.num, p.page == q.page].all id = decide (p = q) := by
  obtain ⟨a, b, c⟩ := p
  obtain ⟨x, y, z⟩ := q
  by_cases h1 : a = x <;> by_cases h2 : b = y <;> by_cases h3 : c = z <;> simp [h1, h2, h3]
theorem hd_all (p q : Hd) : [p.level == q.level, p.num == q.num, p.title == q.title, p.page == q.page].all id = decide (p = q) := by
  obtain ⟨a, b, c, d⟩ := p
  obtain ⟨x, y, z, u⟩ := q
  by_cases h1 : a = x <;> by_cases h2 : b = y <;> by_cases h3 : c = z <;> by_cases h4 : d = u <;> simp [h1, h2, h3, h4]
set_option maxRecDepth 100000 in
set_option maxHeartbeats 4000000 in
theorem rnotes_any {q : Bool} (v1 v2 : Value) (a b : List (Int × Bs)) (hq : q = true ↔ a = b) (w : World) (h1 : RowC 2 ntF w w.heap.size v1 a) (h2 : RowC 2 ntF w w.heap.size v2 b) (_hn : a.length < 1000000) (_hm : b.length < 1000000) :
    Calls Tryd.prog 22 #[v1, v2] w fun e w' => e = .returned (.bool q) ∧ ∃ n, w' = w.drewN n := by
  have HQ := Lib.hid hq
  have HNE : Hid (a ≠ b → q = false) := Lib.hid (fun h => by cases q with | false => rfl | true => exact absurd (hq.1 rfl) h)
  obtain ⟨A1, p1, rfl, _, _, z1⟩ := h1.shape
  obtain ⟨A2, p2, rfl, _, _, z2⟩ := h2.shape
  have Z1 := Lib.hid z1
  have Z2 := Lib.hid z2
  clear z1 z2 h1 h2 hq
  by_cases hl : a.length = b.length
  · have hl2 : ((a.length : Int) != (b.length : Int)) = false := by rw [hl]; simp
    have HL := Lib.hid hl
    clear hl
    go_enter Tryd.func22, Tryd.ntmps22
    go_wp2_with fail
    go_loopw [5] (fun i wr => ∃ j n : Nat, j ≤ a.length ∧ i = .int .i64 j ∧ a.take j = b.take j ∧ wr = w.drewN n) (fun i _ => a.length - (intOf i).toNat)
    case atStart => exact ⟨0, 0, Nat.zero_le _, rfl, rfl, rfl⟩
    case round =>
      obtain ⟨j, n2, hj, rfl, hjk, rfl⟩ := hrel
      have HJ := Lib.hid hjk
      clear hjk
      by_cases hjt : j < a.length
      · have hjt2 : j < b.length := by rw [← HL.out]; exact hjt
        obtain ⟨g3, o3, rfl, hg3, hc3⟩ := Z1.out (by intro e; rw [e] at hjt; simp at hjt)
        obtain ⟨g4, o4, rfl, hg4, hc4⟩ := Z2.out (by intro e; rw [e] at hjt2; simp at hjt2)
        have f1 : w.cell? ⟨g3, o3 + j * 2, none⟩ = some (.int .i64 a[j].1) := hc3 j hjt 0 _ rfl
        have f2 := hc3 j hjt 1 _ rfl
        have f3 : w.cell? ⟨g4, o4 + j * 2, none⟩ = some (.int .i64 b[j].1) := hc4 j hjt2 0 _ rfl
        have f4 := hc4 j hjt2 1 _ rfl
        have HC : Hid (a.take (j + 1) = a.take j ++ [a[j]]) := Lib.hid (List.take_succ_eq_append_getElem hjt)
        have HD : Hid (b.take (j + 1) = b.take j ++ [b[j]]) := Lib.hid (List.take_succ_eq_append_getElem hjt2)
        have HCX : Hid (a[j]? = some a[j]) := Lib.hid (List.getElem?_eq_getElem hjt)
        have HDX : Hid (b[j]? = some b[j]) := Lib.hid (List.getElem?_eq_getElem hjt2)
        clear hc3 hc4
        generalize a[j] = p at *
        generalize b[j] = s at *
        have m4 : (j : Int) < (a.length : Int) := by omega
        have m5 : (j : Int) < (b.length : Int) := by omega
        have m6 : (0 : Int) ≤ (j : Int) := by omega
        have heq := eqAtNt p s
        rw [nt_all] at heq
        by_cases hps : p = s
        · subst hps
          rw [show decide (p = p) = true by simp] at heq
          go_wp2_with fail
          go_quiet (fail)
          go_wp2_with fail
          go_roundw
          case rel => exact ⟨j + 1, _, by omega, by go_num, by rw [HC.out, HD.out, HJ.out], by first | rfl | exact World.drewN_drewN _ _ _⟩
          case measure => simp [intOf]; omega
        · rw [show decide (p = s) = false by simp [hps]] at heq
          have HNO : Hid (q = false) := Lib.hid (HNE.out fun e => by subst e; rw [HCX.out] at HDX; exact hps (Option.some.inj HDX.out))
          clear hps
          go_wp2_with fail
          go_quiet (fail)
          go_wp2_with fail
          go_ret
          exact ⟨by rw [HNO.out]; rfl, _, by first | rfl | exact World.drewN_drewN _ _ _⟩
      · obtain rfl : j = a.length := by omega
        have hqt : q = true := HQ.out.2 (by have h9 := HJ.out; rw [List.take_length, HL.out, List.take_length] at h9; exact h9)
        have hjb : ¬ (a.length : Int) < (a.length : Int) := by omega
        subst hqt
        go_wp2_with fail
        go_ret
        exact ⟨rfl, _, rfl⟩
  · have hl2 : ((a.length : Int) != (b.length : Int)) = true := by simp; omega
    have hqf := HNE.out (fun e => hl (by rw [e]))
    subst hqf
    clear hl
    go_enter Tryd.func22, Tryd.ntmps22
    go_wp2_with fail
    go_ret
    exact ⟨rfl, 0, rfl⟩
end Go.Proofs.YtjmmfihmamcopaaDoor
