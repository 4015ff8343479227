/- wire.Parse, with where its row lies. -/
import Derived.Test.YtkoegbjnhoecoaaGreatDoorStW3
import Derived.Test.YtkoegbjnhoecoaaGreatDoorH4
namespace Go.Proofs.YtkoegbjnhoecoaaGreatDoor
open Go.RowKit Tx

def ParseNew (s : Bs) (w : World) (e : Ending) (w' : World) : Prop :=
  Below w.heap.size w w' ∧ ∃ v, e = .returned (.tuple #[v, .int .i64 (parE s : Nat)]) ∧ RowC 2 ff w' w'.heap.size v (parL s) ∧ NilOr v ∧ ∀ b, v.ownBlock = some b → w.heap.size ≤ b ∧ b < w'.heap.size
set_option maxRecDepth 100000 in
set_option maxHeartbeats 4000000 in
theorem wParse_new (s : Bs) (w : World) (hs : s.length ≤ 1000000) (hg : Gl w) :
    Calls Tryz.prog 42 #[vs s] w (ParseNew s w) := by
  have HA := Lib.hid (all_any s w hs hg.et)
  clear hg
  go_enter Tryz.func42, Tryz.ntmps42
  go_wp2_with fail
  refine HA.out.mono ?_
  rintro e w1 ⟨hb, v, rfl, hrow⟩
  match hall : Wr.all s with
  | .error y =>
    have hy := all_errne s s.length y (Nat.le_refl _) hall
    have hye : allE s = y := by unfold allE; rw [hall]
    have hyl : allL s = [] := by unfold allL; rw [hall]
    have HP : Hid (parE s = y ∧ parL s = []) := Lib.hid (by unfold parE parL Wr.parse; rw [hall]; exact ⟨rfl, rfl⟩)
    have hy0 : ((y : Int) != 0) = true := by simp; omega
    rw [hye]
    obtain ⟨A, cap, rfl, _⟩ := hrow.shape
    clear hrow hye hyl hall hy
    go_wp2_with fail
    go_ret2
    exact ⟨hb, .slice none 0 0, by rw [HP.out.1]; rfl, by rw [HP.out.2]; exact row_none _ _, .inl rfl, fun b h => by cases h⟩
  | .ok L =>
    obtain ⟨hL1, hL2⟩ := Wr.all_inv s.length s L (Nat.le_refl _) hall
    have hll := puts_len L
    rw [← hL1] at hll
    have hye : allE s = 0 := by unfold allE; rw [hall]
    have hyl : allL s = L := by unfold allL; rw [hall]
    rw [hye]
    rw [hyl] at hrow
    have HP : Hid (Wr.parse s = if L.length % 2 = 1 then .error 5 else if Wr.right (Wr.pairs L) = true then .ok (Wr.pairs L) else .error 5) := Lib.hid (by unfold Wr.parse; rw [hall])
    have HL2 := Lib.hid hL2
    obtain ⟨A, cap, rfl, q1, q2, q3⟩ := hrow.shape
    have HC := Lib.hid q3
    clear hrow hye hyl hall hL1 hL2 q3
    have hpl := pairs_len L
    by_cases hodd : L.length % 2 = 1
    · have HQ : Hid (parE s = 5 ∧ parL s = []) := Lib.hid (by unfold parE parL; rw [HP.out, if_pos hodd]; exact ⟨rfl, rfl⟩)
      have ho : (((L.length : Int).tmod 2) != 0) = true := by
        rw [Int.tmod_eq_emod_of_nonneg (by omega)]
        have : ((L.length : Int) % 2) = 1 := by omega
        rw [this]; rfl
      have ho2 : ((L.length : Int) % 2 != 0) = true := by
        have : ((L.length : Int) % 2) = 1 := by omega
        rw [this]; rfl
      clear hodd hpl
      go_wp2_with fail
      go_ret2
      exact ⟨hb, .slice none 0 0, by rw [HQ.out.1]; rfl, by rw [HQ.out.2]; exact row_none _ _, .inl rfl, fun b h => by cases h⟩
    · have ho : (((L.length : Int).tmod 2) != 0) = false := by
        rw [Int.tmod_eq_emod_of_nonneg (by omega)]
        have : ((L.length : Int) % 2) = 0 := by omega
        rw [this]; rfl
      have ho2 : ((L.length : Int) % 2 != 0) = false := by
        have : ((L.length : Int) % 2) = 0 := by omega
        rw [this]; rfl
      have hev : Hid (L.length % 2 = 0) := Lib.hid (by omega)
      have hod := Lib.hid hodd
      clear hodd
      obtain ⟨wq, rfl⟩ : ∃ wq, wq = w1 := ⟨_, rfl⟩
      have hle1 := hb.size
      have HPL := Lib.hid hpl
      clear hpl
      go_wp2_with fail
      go_loopw [6, 7] (fun o i wr => ∃ j : Nat, 2 * j ≤ L.length ∧ i = .int .i64 (2 * j : Nat) ∧ OwnC 29 2 ff wq.heap.size wr o ((Wr.pairs L).take j) ∧ Below wq.heap.size wq wr) (fun _ i _ => L.length - (RowKit.intOf i).toNat)
      case atStart => exact ⟨0, by omega, rfl, OwnC.nil _ _ _ _ _, Below.refl _ _⟩
      case round =>
        obtain ⟨j, hj, rfl, hown, hbel⟩ := hrel
        have hle := hbel.size
        have hol : ((Wr.pairs L).take j).length ≤ j := by simp; omega
        by_cases hlt : 2 * j < L.length
        · have h21 : 2 * j + 1 < L.length := by have := hev.out; omega
          obtain ⟨b, off, rfl, hbl, hc⟩ := HC.out (by rintro rfl; simp at hlt)
          have c0 := (hbel.cell (p := ⟨b, off + 2 * j, none⟩) hbl).trans (hc (2 * j) hlt)
          have c1 := (hbel.cell (p := ⟨b, off + (2 * j + 1), none⟩) hbl).trans (hc (2 * j + 1) h21)
          have HS := Lib.hid (pairs_step L j h21)
          generalize L[2 * j] = x at *
          generalize L[2 * j + 1] = y at *
          obtain ⟨k, hk⟩ : ∃ k, k = 2 * j := ⟨_, rfl⟩
          rw [← hk] at c0 c1 hlt h21 hj ⊢
          have HK := Lib.hid hk
          have hkj : k ≤ 1000000 := by omega
          have hjk : j < 1000000 := by omega
          have HO := Lib.hid hown
          clear hk hc hown
          have i0 : (0 : Int) ≤ (k : Int) := by omega
          have i1 : (k : Int) < (L.length : Int) := by omega
          have i2 : (k : Int) + 1 < (L.length : Int) := by omega
          have i3 : (0 : Int) ≤ (k : Int) + 1 := by omega
          have hw : IntKind.i64.wrap ((k : Int) + 1) = (k : Int) + 1 := IntWalk.i64_in _ (by omega)
          have ht : ((k : Int) + 1).toNat = k + 1 := by omega
          go_upto_region 10 with fail
          have hbase := hle
          go_region_held3 (fun wx => wx.cell? ⟨b, off + k, none⟩ = some (.string (bs x)) ∧ wx.cell? ⟨b, off + (k + 1), none⟩ = some (.string (bs y))) (first | go_keep | exact ⟨(h9.cell (p := ⟨b, off + k, none⟩) hbl).trans (Lib.cell?_alloc_marked _ c0), (h9.cell (p := ⟨b, off + (k + 1), none⟩) hbl).trans (Lib.cell?_alloc_marked _ c1)⟩) ((refine step_file (by rfl) (.tmp 26) (.tmp 37) (by rfl) wq.heap.size _ ((Wr.pairs L).take j) (x, y) (by rfl) wr.heap.size (by rfl) (heap_alloc_new _ _) (HO.out.below ((Below.refl _ _).alloc (Nat.le_refl _) _).drew) (by simp; omega) (by omega) ?_; intro v' w4 h8 h9 h10))
          go_wp2_with fail
          go_roundw
          case rel => exact ⟨j + 1, by have := HK.out; omega, by have := HK.out; congr 1; omega, by rw [HS.out]; exact h8, (hbel.alloc hle _).drew.trans h9⟩
          case measure => simp [RowKit.intOf]; omega
        · have hjl : (Wr.pairs L).length ≤ j := by have := hev.out; have := HPL.out; omega
          have HT : Hid ((Wr.pairs L).take j = Wr.pairs L) := Lib.hid (List.take_of_length_le hjl)
          rw [HT.out] at hown
          obtain ⟨k, hk⟩ : ∃ k, k = 2 * j := ⟨_, rfl⟩
          have hnl : ¬ k < L.length := by omega
          have hnli : (L.length : Int) ≤ (k : Int) := by omega
          rw [← hk]
          clear hk hlt hjl
          have HR := Lib.hid (fRight_any _ (Wr.pairs L) wr (hown.rowC ff_length) (fun f hf => by
            obtain ⟨h1, h2⟩ := pairs_mem L f hf
            have h3 := HL2.out _ h1
            have h4 := HL2.out _ h2
            exact ⟨by simp only [maxLen]; omega, by simp only [maxLen]; omega⟩))
          have HO := Lib.hid hown
          clear hown
          by_cases hrt : Wr.right (Wr.pairs L) = true
          · have HQ : Hid (parE s = 0 ∧ parL s = Wr.pairs L) := Lib.hid (by unfold parE parL; rw [HP.out, if_neg hod.out, if_pos hrt]; exact ⟨rfl, rfl⟩)
            rw [hrt] at HR
            clear hrt
            go_wp2_with fail
            refine HR.out.mono ?_
            rintro e w3 ⟨rfl, hb3⟩
            go_wp2_with fail
            go_ret2
            exact ⟨below_via hb (below_via hbel hb3), _, by rw [HQ.out.1]; rfl, by rw [HQ.out.2]; exact (HO.out.below hb3).rowC ff_length, HO.out.nilOr, fun b h => ⟨Nat.le_trans hb.size (HO.out.lt b h).1, Nat.lt_of_lt_of_le (HO.out.lt b h).2 hb3.size⟩⟩
          · have HQ : Hid (parE s = 5 ∧ parL s = []) := Lib.hid (by unfold parE parL; rw [HP.out, if_neg hod.out, if_neg hrt]; exact ⟨rfl, rfl⟩)
            have hrt : Wr.right (Wr.pairs L) = false := by simpa using hrt
            rw [hrt] at HR
            clear hrt
            go_wp2_with fail
            refine HR.out.mono ?_
            rintro e w3 ⟨rfl, hb3⟩
            go_wp2_with fail
            go_ret2
            exact ⟨below_via hb (below_via hbel hb3), .slice none 0 0, by rw [HQ.out.1]; rfl, by rw [HQ.out.2]; exact row_none _ _, .inl rfl, fun b h => by cases h⟩
end Go.Proofs.YtkoegbjnhoecoaaGreatDoor
