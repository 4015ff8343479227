/- stetlaw09.Cut. -/
import Derived.Test.YtjmmfihmamcopaaGreatDoorNbY
namespace Go.Proofs.YtjmmfihmamcopaaGreatDoor
open Go.RowKit Tx Nb

theorem itInfo : (Tryz.prog.info? 59).map (fun i => (i.zero, i.size, i.bytes)) = some (some (.agg #[.int .i64 0, .string ⟨#[]⟩]), 2, 24) := by kernel_rfl
theorem ext_take (s : Bs) (k : Nat) : (bs s).extract 0 (min ((bs s).size : Int) (k : Int)).toNat = bs (s.take k) := by
  rw [bs_size, show (min (s.length : Int) (k : Int)).toNat = min s.length k by omega]
  apply ByteArray.ext
  simp [bs, ByteArray.data_extract, Nat.min_comm]
theorem ext80 (s : Bs) : (bs s).extract 0 (min ((bs s).size : Int) 80).toNat = bs (s.take 80) := ext_take s 80
theorem ext60 (s : Bs) : (bs s).extract 0 (min ((bs s).size : Int) 60).toNat = bs (s.take 60) := ext_take s 60
def itCut (x : It) : It := ⟨x.kind, x.s.take 80⟩
theorem made_empty {α : Type} {e : TypeId} {n : Nat} {f : α → List Value} (w : World) (B : Nat := w.heap.size) (hB : B ≤ w.heap.size := by exact Nat.le_refl _) : OwnC e n f B (w.alloc (.cells #[] e)) (.slice (some ⟨w.heap.size, 0, none⟩) 0 0) ([] : List α) :=
  World.ownsRow_made w #[] 0 hB (by decide) (by simp)
set_option maxRecDepth 100000 in
set_option maxHeartbeats 16000000 in
theorem l9cut_any {w : World} (vl : Value) (l : List It) (hr : RowC 2 itF w w.heap.size vl l) (ok : ∀ x ∈ l, x.s.length ≤ maxLen) (k : Nat) (hk : k ≤ 1000) :
    Calls Tryz.prog 5 #[vl, .int .i64 k] w fun e w' => ∃ v, e = .returned v ∧ OwnC 59 2 itF w.heap.size w' v ((l.take k).map itCut) ∧ Below w.heap.size w w' := by
  obtain ⟨A, c, rfl, _, hmx, z1⟩ := hr.shape
  have HC := Lib.hid z1
  have OK := Lib.hid ok
  clear z1 hr ok
  go_enter Tryz.func5, Tryz.ntmps5
  go_wp2_with fail
  go_loopw [5, 6] (fun o i wr => ∃ j : Nat, j ≤ l.length ∧ j ≤ k ∧ i = .int .i64 j ∧ OwnC 59 2 itF w.heap.size wr o ((l.take j).map itCut) ∧ Below w.heap.size w wr) (fun _ i _ => l.length - (RowKit.intOf i).toNat)
  case atStart => exact ⟨0, Nat.zero_le _, Nat.zero_le _, rfl, made_empty _ _, (Below.refl _ _).alloc (Nat.le_refl _) _⟩
  case round =>
    obtain ⟨j, hj, hjk, rfl, hown, hbel⟩ := hrel
    have HBEL := Lib.hid hbel
    by_cases hjt : j < l.length
    · have hi : (j : Int) < (l.length : Int) := by omega
      have hi0 : (0 : Int) ≤ (j : Int) := by omega
      by_cases hjk2 : j < k
      · have hi2 : (j : Int) < (k : Int) := by omega
        obtain ⟨b, off, rfl, hbl, hc⟩ := HC.out (by intro e; rw [e] at hjt; simp at hjt)
        have x0 : wr.cell? ⟨b, off + j * 2, none⟩ = some (.int .i64 l[j].kind) := (hbel.cell (p := ⟨b, off + j * 2, none⟩) hbl).trans (hc j hjt 0 _ rfl)
        have x1 : wr.cell? ⟨b, off + j * 2 + 1, none⟩ = some (vs l[j].s) := (hbel.cell (p := ⟨b, off + j * 2 + 1, none⟩) hbl).trans (hc j hjt 1 _ rfl)
        have hok := OK.out l[j] (List.getElem_mem hjt)
        have HT : Hid (l.take (j + 1) = l.take j ++ [l[j]]) := Lib.hid (List.take_succ_eq_append_getElem hjt)
        generalize l[j] = x at *
        obtain ⟨i0, hi0', hz0, hz1, hz2⟩ := info_parts itInfo
        obtain ⟨B1, n1, b1, rfl⟩ : ∃ A n c, u5 = .slice A n c := by obtain ⟨A, c, e, _⟩ := (hown.rowC itF_len).shape; exact ⟨A, _, c, e⟩
        have hbA : Below wr.heap.size wr (wr.alloc (.cells #[.int .i64 x.kind, .string ((bs x.s).extract 0 (min ((bs x.s).size : Int) 80).toNat)] 59)) := (Below.refl _ _).alloc (Nat.le_refl _) _
        have HOA := Lib.hid (hown.below hbA)
        have HSZ : Hid (w.heap.size ≤ (wr.alloc (.cells #[.int .i64 x.kind, .string ((bs x.s).extract 0 (min ((bs x.s).size : Int) 80).toNat)] 59)).heap.size) := Lib.hid (by have := hbel.size; simp; omega)
        clear hc hown hbA hbel
        go_wp2_with (at_builtin; refine wpList_appN (by rfl) (.tmp 32) (.tmp 34) 22 (by rfl) w.heap.size 59 i0 _ 2 24 Tryz.underlying22 hi0' hz0 hz1 hz2 (by rfl) (by decide) (.slice B1 n1 b1) ((l.take j).map itCut).length (((l.take j).map itCut).flatMap itF) [.int .i64 x.kind, .string ((bs x.s).extract 0 (min ((bs x.s).size : Int) 80).toNat)] rfl (by simp [Value.oneCell']) (by rfl) (wr.heap.size + 1) (by simp) (by rfl) HOA.out HSZ.out (by simp only [maxLen, List.length_map, List.length_take]; omega) (by simp only [List.length_map, List.length_take]; omega) ?_; intro v' w' q1 q2 q3; obtain ⟨A', c', hv'⟩ := own_slice q1; obtain ⟨A', n', c', rfl⟩ : ∃ A n c, v' = .slice A n c := ⟨_, _, _, hv'⟩; clear hv'; have HQ := Lib.hid (And.intro q1 (And.intro q2 q3)); clear q1 q2 q3)
        go_roundw
        case rel =>
          obtain ⟨q1, q2, q3⟩ := HQ.out
          refine ⟨j + 1, by omega, by omega, by go_num, ?_, ?_⟩
          · rw [HT.out]
            simp only [ext80] at q1
            simpa [OwnC, itF, itCut] using q1
          · exact (HBEL.out.alloc HBEL.out.size _).grown q2 (by have := HBEL.out.size; simp; omega) (fun k hk => (World.ownsRow.lt HOA.out k hk).1)
        case measure => simp [RowKit.intOf]; omega
      · obtain rfl : j = k := by omega
        have hi2 : ¬ (j : Int) < (j : Int) := by omega
        have HOWN := Lib.hid hown
        clear hown hbel
        go_wp2_with fail
        go_ret
        exact ⟨u5, rfl, by rw [← List.map_take]; exact HOWN.out, HBEL.out⟩
    · obtain rfl : j = l.length := by omega
      have hi : ¬ (l.length : Int) < (l.length : Int) := by omega
      have HOWN : Hid (OwnC 59 2 itF w.heap.size wr u5 ((l.take k).map itCut)) := Lib.hid (by rw [List.take_of_length_le hjk]; rw [List.take_length] at hown; exact hown)
      clear hown hbel
      go_wp2_with fail
      go_ret
      exact ⟨u5, rfl, by rw [← List.map_take]; exact HOWN.out, HBEL.out⟩
end Go.Proofs.YtjmmfihmamcopaaGreatDoor
