/- The reference's Map. -/
import Derived.Test.YtkoegbjnhoecoaaGreatDoorWrM
namespace Go.Proofs.YtkoegbjnhoecoaaGreatDoor
open Go.RowKit Tx

theorem map_step (l : List Wr.F) (b k : Nat) (h : k < l.length) : Wr.mapF l (k + 1) b = if putE (Wr.mapF l k b) (l[k].1, l[k].2.take b) = 0 then putL (Wr.mapF l k b) (l[k].1, l[k].2.take b) else Wr.mapF l k b := by
  unfold Wr.mapF
  rw [List.take_succ_eq_append_getElem h, List.foldl_append]
  simp only [List.foldl_cons, List.foldl_nil]
  generalize (l.take k).foldl (Wr.mapS b) [] = M
  unfold Wr.mapS putE putL
  cases hp : Wr.putF M (l[k].1, l[k].2.take b) with
  | ok m => simp
  | error e =>
    have : e ≠ 0 := by
      unfold Wr.putF at hp
      split at hp
      · injection hp with hp; omega
      · split at hp
        · injection hp with hp; omega
        · cases hp
    simp [this]
theorem map_end (l : List Wr.F) (b m : Nat) (h : l.length ≤ m) : Wr.mapF l m b = Wr.mapF l l.length b := by
  unfold Wr.mapF
  rw [List.take_of_length_le h, List.take_length]
theorem mapF_le (l : List Wr.F) (n b : Nat) : (Wr.mapF l n b).length ≤ 32 := (Wr.mapF_right l n b).most

set_option maxRecDepth 100000 in
set_option maxHeartbeats 4000000 in
theorem mapF_any (v : Value) (l : List Wr.F) (most bytes : Nat) (w : World) (hr : RowC 2 ff w w.heap.size v l) (ok : ∀ f ∈ l, FOk f) (hm : most ≤ 1000) (hby : bytes ≤ 100000) :
    Calls Tryz.prog 16 #[v, .int .i64 most, .int .i64 bytes] w fun e w' => ∃ o, e = .returned o ∧ RowC 2 ff w' w'.heap.size o (Wr.mapF l most bytes) ∧ (∀ k, o.ownBlock = some k → w.heap.size ≤ k) ∧ Below w.heap.size w w' := by
  obtain ⟨A, cap, rfl, c1, c2, c3⟩ := hr.shape
  have HC := Lib.hid c3
  have OK := Lib.hid ok
  clear c3 ok hr
  have hmade := (OwnC.made 29 2 ff w.heap.size w (Nat.le_refl _)).rowC ff_length
  go_enter Tryz.func16, Tryz.ntmps16
  go_wp2_with fail
  go_loopw [7, 8] (fun o i wr => ∃ k : Nat, k ≤ most ∧ k ≤ l.length ∧ i = .int .i64 k ∧ RowC 2 ff wr wr.heap.size o (Wr.mapF l k bytes) ∧ (∀ k, o.ownBlock = some k → w.heap.size ≤ k) ∧ Below w.heap.size w wr) (fun _ i _ => most - (RowKit.intOf i).toNat)
  case atStart => exact ⟨0, Nat.zero_le _, Nat.zero_le _, rfl, hmade, fun k h => by simp [Value.ownBlock] at h; omega, (Below.refl _ _).alloc (Nat.le_refl _) _⟩
  case round =>
    clear hmade
    obtain ⟨k, hkm, hk, rfl, ho, hnw, hbel⟩ := hrel
    have HNW := Lib.hid hnw
    clear hnw
    have hle := hbel.size
    have hol := mapF_le l k bytes
    obtain ⟨A1, cap1, rfl, _⟩ := ho.shape
    have HO := Lib.hid ho
    clear ho
    by_cases hlt : k < l.length
    · have hi : (k : Int) < (l.length : Int) := by omega
      have hi0 : (0 : Int) ≤ (k : Int) := by omega
      by_cases hlm : k < most
      · have hi2 : (k : Int) < (most : Int) := by omega
        obtain ⟨b, off, rfl, hbl, hc⟩ := HC.out (by rintro rfl; simp at hlt)
        obtain ⟨d0, d1⟩ := ff_cells (fun i u hu => (hbel.cell (p := ⟨b, off + k * 2 + i, none⟩) hbl).trans (hc k hlt i u hu))
        have hok := OK.out _ (List.getElem_mem hlt)
        have hst := map_step l bytes k hlt
        clear hc
        generalize l[k] = f at *
        obtain ⟨x, y⟩ := f
        obtain ⟨ok1, ok2⟩ := hok
        simp only at ok1 ok2 d0 d1 hst
        have hyx := xext_minr y bytes
        have hys := bs_size y
        have hox := ok1
        simp only [maxLen] at ok2
        have j1 : (0 : Int) ≤ min ((bs y).size : Int) (bytes : Int) := by omega
        have j2 : min ((bs y).size : Int) (bytes : Int) ≤ ((bs y).size : Int) := by omega
        have hy2 : (y.take bytes).length ≤ maxLen := by simp only [maxLen]; simp; omega
        generalize y.take bytes = z at *
        generalize Wr.mapF l k bytes = M at *
        have hb1 : Below wr.heap.size wr (wr.alloc (.cells #[.string (bs x), .string (bs z)] 29)) := (Below.refl _ _).alloc (Nat.le_refl _) _
        have HP := Lib.hid (putF_any _ M x z _ (HO.out.step hb1) (by omega) hox hy2)
        have HB1 := Lib.hid (below_via hbel hb1)
        have HB1s := hb1.size
        have HST := Lib.hid hst
        have HO1 := Lib.hid (HO.out.step hb1)
        clear hst hb1 ok1 hox hy2 hys
        go_wp2_with fail
        refine HP.out.mono ?_
        rintro e w3 ⟨o, rfl, ho, hnw, hb3⟩
        have HN3 := Lib.hid (fun k h => Nat.le_trans hle (Nat.le_trans HB1s (hnw k h)))
        clear hnw
        have hb4 := below_via HB1.out hb3
        by_cases he : putE M (x, z) = 0
        · have HS : Hid (Wr.mapF l (k + 1) bytes = putL M (x, z)) := Lib.hid (by rw [HST.out, if_pos he])
          rw [he]
          have HOO := Lib.hid ho
          clear ho he
          go_wp2_with fail
          go_roundw
          case rel => exact ⟨k + 1, by omega, by omega, by go_num, by rw [HS.out]; exact HOO.out, HN3.out, hb4⟩
          case measure => simp [RowKit.intOf]; omega
        · have HS : Hid (Wr.mapF l (k + 1) bytes = M) := Lib.hid (by rw [HST.out, if_neg he])
          have HO3 := Lib.hid (HO1.out.step hb3)
          generalize putE M (x, z) = pe at *
          have hpe : ((pe : Int) == 0) = false := by rw [beq_eq_false_iff_ne]; omega
          clear ho he
          go_wp2_with fail
          go_roundw
          case rel => exact ⟨k + 1, by omega, by omega, by go_num, by rw [HS.out]; exact HO3.out, HNW.out, hb4⟩
          case measure => simp [RowKit.intOf]; omega
      · obtain rfl : k = most := by omega
        have q1 : decide ((k : Int) < (k : Int)) = false := decide_eq_false (by omega)
        go_wp2_with fail
        go_ret
        exact ⟨_, rfl, HO.out, HNW.out, hbel⟩
    · have hi : (l.length : Int) ≤ (k : Int) := by omega
      have HE : Hid (Wr.mapF l most bytes = Wr.mapF l k bytes) := Lib.hid (by rw [map_end l bytes most (by omega)]; congr 1; omega)
      go_wp2_with fail
      go_ret
      exact ⟨_, rfl, by rw [HE.out]; exact HO.out, HNW.out, hbel⟩
end Go.Proofs.YtkoegbjnhoecoaaGreatDoor
