/- The walk of stetlaw04.DiskOne. -/
import Derived.Test.YtienbgfmhllgmaaRows
import Derived.Test.YtienbgfmhllgmaaKit
import Derived.Test.YtienbgfmhllgmaaRowC
import Derived.Laws.BytesArg
import Derived.Test.YtienbgfmhllgmaaDk6
import Derived.Test.YtienbgfmhllgmaaDk7
import Derived.Test.YtienbgfmhllgmaaDk8
import Derived.Test.YtienbgfmhllgmaaDkKeeps
namespace Go.Proofs.Ytienbgfmhllgmaa
open Go.Maps Go.RowKit

namespace Dk
def old : ByteArray := ⟨#[111, 108, 100]⟩
def wo (k : Nat) : List Wr := (List.range k).map fun (j : Nat) => ((j : Int), old)
theorem wo_succ (k : Nat) : wo (k + 1) = wo k ++ [((k : Int), old)] := by simp [wo, List.range_succ]
def vl (h : Int → Option Wr) (i : Int) : ByteArray := match h i with | some w => w.2 | none => ⟨#[]⟩
theorem at_vl (s : St) (i : Int) : at_ s i = vl (puts s.held s.pend) i := rfl
theorem kept_append (l : List Wr) (u : Wr) (ks : List Bool) : kept (l ++ [u]) ks = kept l ks ++ (if ks[l.length]?.getD false then [u] else []) := by
  have := kept_take (l ++ [u]) ks l.length (by simp)
  rw [List.take_of_length_le (by simp), List.take_left] at this
  simpa using this
theorem vl_put (h : Int → Option Wr) (u : Wr) (i : Int) : vl (put h u) i = if i = u.1 then u.2 else vl h i := by
  unfold vl put
  by_cases hi : i = u.1
  · simp [hi]
  · simp [hi]
end Dk
theorem write_ok_inR {B : Nat} {w0 w : World} {a : Nat} {s : Dk.St} {R : List Nat} (i : Int) (u : ByteArray) (h : Dk.InR B w0 w a s R) (hp : s.pend.length < 1000000) (hl : s.lim = none) (ht : u.size ≤ 64) (hi0 : 0 ≤ i) (hi1 : i < s.n) (hn : s.n ≤ 4096) :
    Calls Try.prog 9 #[.pointer (some ⟨a, 0, none⟩), .int .i64 i, .string u] w fun e w' => e = .returned (.int .i64 0) ∧ Dk.InR B w0 w' a { s with pend := s.pend ++ [(i, u)] } R ∧ Dk.Same R w w' := by
  have := write_inR 0 i u h hp (by omega) (WalkArith.wf_i64 (by omega)) (by rw [Dk.write_ok s i u hi0 hi1 ht hl])
  rwa [Dk.write_ok s i u hi0 hi1 ht hl] at this

/-- 'string([]byte{n})' -/
theorem byte1 (n : Int) : ∃ s : ByteArray, s.size = 1 ∧ ∀ w : World, (convert 38 9 (.slice (some ⟨w.heap.size, 0, none⟩) 1 1)).run Try.prog (w.alloc (.cells #[.int .u8 n] 5)) = .ok (.string s) (w.alloc (.cells #[.int .u8 n] 5)) := by
  refine ⟨strOfNums [n], by simp [strOfNums, ByteArray.size], fun w => ?_⟩
  refine run_convert_bytes_arg _ 38 5 Try.underlying38 Try.underlying5 w.heap.size 0 1 1 [n] rfl (fun i hi => ?_) 9 Try.underlying9
  obtain rfl : i = 0 := by omega
  rw [cell_of_row _ w.heap.size _ _ 5 (0, 0) (heap_alloc_new w _)]
  rfl

set_option maxRecDepth 100000 in
set_option maxHeartbeats 4000000 in
theorem one_any (v0 v1 : Value) (z0 : List Int) (ks : List Bool) (w : World) (h0 : Row (Value.int .u8) w w.heap.size v0 z0) (h1 : Row Value.bool w w.heap.size v1 ks) (ok0 : ∀ x ∈ z0, (Lit.int .u8 x).wf = true) :
    Calls Try.prog 4 #[v0, v1] w fun e w' => e = .returned (.bool true) ∧ Below w.heap.size w w' := by
  have HR1 := Lib.hid h1
  obtain ⟨A0, c0, rfl, l0, m0, hA0⟩ := h0.shape
  obtain ⟨A1, c1, rfl, l1, m1, hA1⟩ := h1.shape
  have HA0 := Lib.hid hA0
  have HA1 := Lib.hid hA1
  have HO0 := Lib.hid ok0
  clear hA0 hA1 ok0 h0 h1
  go_enter Try.func4, Try.ntmps4
  go_wp2_with (go_at_call 8; refine (new_in (B := w.heap.size) 4 (by decide) (Nat.le_refl _) (Below.refl _ _)).mono ?_; rintro e w1 ⟨a, rfl, hin⟩)
  go_loopw [7] (fun i wr => ∃ k : Nat, k ≤ 4 ∧ i = .int .i64 k ∧ Dk.In w.heap.size w wr a ⟨none, 4, fun _ => none, 0, Dk.wo k⟩) (fun i _ => 4 - (intOf i).toNat)
  case atStart => exact ⟨0, Nat.zero_le _, rfl, hin⟩
  case round =>
    obtain ⟨k, hk, rfl, hin⟩ := hrel
    by_cases hlt : k < 4
    · have hx : (k : Int) < 4 := by omega
      have hl : (Dk.wo k).length < 1000000 := by simp [Dk.wo]; omega
      go_wp2_with fail
      refine (write_ok_in (k : Int) Dk.old hin hl rfl (by decide) (by omega) hx (by simp)).mono ?_
      rintro e w2 ⟨rfl, hin2⟩
      go_wp2_with fail
      go_roundw
      case rel => exact ⟨k + 1, by omega, by go_num, by rw [Dk.wo_succ]; exact hin2⟩
      case measure => simp [intOf]; omega
    · obtain rfl : k = 4 := by omega
      go_wp2_with fail
      refine (sync_in 0 hin (by decide) rfl).mono ?_
      rintro e w3 ⟨rfl, hin3⟩
      replace hin3 : Dk.In w.heap.size w w3 a ⟨none, 4, Dk.puts (fun _ => none) (Dk.wo 4), 4, []⟩ := hin3
      have hold : ∀ j : Nat, j < 4 → Dk.vl (Dk.puts (fun _ => none) (Dk.wo 4)) j = Dk.old := by
        intro j hj
        match j, hj with
        | 0, _ => rfl
        | 1, _ => rfl
        | 2, _ => rfl
        | 3, _ => rfl
      generalize Dk.puts (fun _ => none) (Dk.wo 4) = H at *
      clear hin hk hlt
      have hin4 := (Dk.InR.of_in hin3).add (.cells #[.string ⟨#[111, 108, 100]⟩, .string ⟨#[111, 108, 100]⟩, .string ⟨#[111, 108, 100]⟩, .string ⟨#[111, 108, 100]⟩] 9)
      have hcl : ∀ j : Nat, j < 4 → (w3.alloc (.cells #[.string ⟨#[111, 108, 100]⟩, .string ⟨#[111, 108, 100]⟩, .string ⟨#[111, 108, 100]⟩, .string ⟨#[111, 108, 100]⟩] 9)).cell? ⟨w3.heap.size, j, none⟩ = some (.string (Dk.vl H j)) := by
        intro j hj
        rw [hold j hj, Dk.cell_of (heap_alloc_new w3 _)]
        match j, hj with
        | 0, _ => rfl
        | 1, _ => rfl
        | 2, _ => rfl
        | 3, _ => rfl
      have hfl : ∀ j : Nat, (w3.alloc (.cells #[.string ⟨#[111, 108, 100]⟩, .string ⟨#[111, 108, 100]⟩, .string ⟨#[111, 108, 100]⟩, .string ⟨#[111, 108, 100]⟩] 9)).frozen? ⟨w3.heap.size, j, none⟩ = false := fun j => Dk.free_of (heap_alloc_new w3 _)
      have HC := Lib.hid hcl
      have HF := Lib.hid hfl
      clear hcl hfl hold
      go_upto_block 2 with fail
      go_cut [5, 8] (fun p q wx => p = .pointer (some ⟨a, 0, none⟩) ∧ q = .slice (some ⟨w3.heap.size, 0, none⟩) 4 4 ∧ ∃ P : List Dk.Wr, P.length ≤ 20 ∧ Dk.InR w.heap.size w wx a ⟨none, 4, H, 4, P⟩ [w3.heap.size] ∧ Hid (∀ j : Nat, j < 4 → wx.cell? ⟨w3.heap.size, j, none⟩ = some (.string (Dk.vl (Dk.puts H (Dk.kept P ks)) j))))
      case first =>
        go_wp2
        go_loopw [9] (fun i wr => ∃ (k : Nat) (P : List Dk.Wr), k ≤ z0.length ∧ k ≤ 20 ∧ i = .int .i64 k ∧ P.length = k ∧ Dk.InR w.heap.size w wr a ⟨none, 4, H, 4, P⟩ [w3.heap.size] ∧ Hid (∀ j : Nat, j < 4 → wr.cell? ⟨w3.heap.size, j, none⟩ = some (.string (Dk.vl (Dk.puts H (Dk.kept P ks)) j))) ∧ Hid (∀ j : Nat, wr.frozen? ⟨w3.heap.size, j, none⟩ = false)) (fun i _ => 20 - (intOf i).toNat)
        case atStart => exact ⟨0, [], Nat.zero_le _, Nat.zero_le _, rfl, rfl, hin4, HC, HF⟩
        case round =>
          obtain ⟨k, P, hk0, hk20, rfl, hP, hin5, hc5, hf5⟩ := hrel
          by_cases hlt : k < z0.length ∧ k < 20
          · obtain ⟨hlt0, hlt20⟩ := hlt
            obtain ⟨b, off, rfl, hb, hc⟩ := HA0.out (by rintro rfl; simp at hlt0)
            have hcell0 := hc k hlt0
            have hcell := (hin5.2.1.cell (p := ⟨b, off + k, none⟩) hb).trans hcell0
            have hx1 : (k : Int) < (z0.length : Int) := by omega
            have hx2 : (k : Int) < 20 := by omega
            have hu8 := bounds_u8 (HO0.out _ (List.getElem_mem hlt0))
            clear hc
            generalize z0[k] = z at *
            obtain ⟨r, hr⟩ : ∃ r : Nat, z % 4 = (r : Int) := ⟨(z % 4).toNat, by omega⟩
            have hr4 : r < 4 := by omega
            have hr4' : (r : Int) < 4 := by omega
            obtain ⟨s, hs1, hs⟩ := byte1 (k : Int)
            obtain ⟨hin6, hsm6⟩ := hin5.below ((Below.refl _ _).alloc (Nat.le_refl _) (.cells #[.int .u8 (k : Int)] 5))
            have hcell6 := (hin6.2.1.cell (p := ⟨b, off + k, none⟩) hb).trans hcell0
            clear hcell
            go_wp2_with fail
            refine (write_ok_inR (r : Int) s hin6 (by simp; omega) rfl (by omega) (by omega) (by simpa using hr4') (by simp)).mono ?_
            rintro e w7 ⟨rfl, hin7, hsm7⟩
            have hcell := (hin7.2.1.cell (p := ⟨b, off + k, none⟩) hb).trans hcell0
            go_wp2_with fail
            have hrd : Hid (Dk.read ⟨none, 4, H, 4, P ++ [((r : Int), s)]⟩ r = (s, 0)) := by
              show _ = _
              rw [Dk.read_in _ _ (by omega) (by simpa using hr4'), Dk.at_vl, Dk.puts_append, show Dk.puts (Dk.puts H P) [((r : Int), s)] = Dk.put (Dk.puts H P) ((r : Int), s) from rfl, Dk.vl_put, if_pos rfl]
            refine (read_in _ (r : Int) hin7.to_in (by simp; omega) (WalkArith.wf_i64 (by omega)) hrd.out).mono ?_
            rintro e w8 ⟨rfl, hb8⟩
            obtain ⟨hin8, hsm8⟩ := hin7.below hb8
            have hcell := (hin8.2.1.cell (p := ⟨b, off + k, none⟩) hb).trans hcell0
            have hblk : w8.heap[w3.heap.size]? = wr.heap[w3.heap.size]? := ((hsm8 _ (by simp)).trans (hsm7 _ (by simp))).trans (hsm6 _ (by simp))
            have hc8 : Hid (∀ j : Nat, j < 4 → w8.cell? ⟨w3.heap.size, j, none⟩ = some (.string (Dk.vl (Dk.puts H (Dk.kept P ks)) j))) := fun j hj => (World.cell?_of_block (a := ⟨w3.heap.size, j, none⟩) hblk).trans (hc5.out j hj)
            have hf8 : Hid (∀ j : Nat, w8.frozen? ⟨w3.heap.size, j, none⟩ = false) := fun j => (World.frozen?_of_block (a := ⟨w3.heap.size, j, none⟩) hblk).trans (hf5.out j)
            by_cases hki : k < ks.length
            · obtain ⟨bk, ok, rfl, hbk, hck⟩ := HA1.out (by rintro rfl; simp at hki)
              have hki' : (k : Int) < (ks.length : Int) := by omega
              have hckk := (hin8.2.1.cell (p := ⟨bk, ok + k, none⟩) hbk).trans (hck k hki)
              have HB : Hid (ks[k]?.getD false = ks[k]) := by show _ = _; simp [hki]
              have HK := Lib.hid (Dk.kept_append P ((r : Int), s) ks)
              clear hck
              generalize ks[k] = kb at *
              cases kb
              · go_wp2_with fail
                go_roundw
                case rel =>
                  have hK : Dk.kept (P ++ [((r : Int), s)]) ks = Dk.kept P ks := by rw [HK.out, hP, HB.out]; simp
                  exact ⟨k + 1, P ++ [((r : Int), s)], by omega, by omega, by go_num, by simp [hP], hin8, by rw [hK]; exact hc8, hf8⟩
                case measure => simp [intOf]; omega
              · have hw0 := hc8.out r hr4
                have hw1 := hf8.out r
                have hin9 := hin8.turn (R' := [w3.heap.size]) ((Moved.refl w8 [w3.heap.size]).setCell w3.heap.size r (.string s) (.inl (by simp))) (fun k hk => ⟨.inl hk, by rw [World.size_setCell]; exact (hin8.2.2.1 k hk).1⟩)
                have hK : Dk.kept (P ++ [((r : Int), s)]) ks = Dk.kept P ks ++ [((r : Int), s)] := by rw [HK.out, hP, HB.out]; simp
                have hc9 : Hid (∀ j : Nat, j < 4 → (w8.setCell ⟨w3.heap.size, r, none⟩ (.string s)).cell? ⟨w3.heap.size, j, none⟩ = some (.string (Dk.vl (Dk.puts H (Dk.kept (P ++ [((r : Int), s)]) ks)) j))) := by
                  intro j hj
                  rw [hK, Dk.puts_append, show Dk.puts (Dk.puts H (Dk.kept P ks)) [((r : Int), s)] = Dk.put (Dk.puts H (Dk.kept P ks)) ((r : Int), s) from rfl, Dk.vl_put]
                  by_cases hjr : j = r
                  · subst hjr
                    rw [if_pos rfl]
                    exact World.cell?_setCell_same' _ _ _ (by rw [hw0]; rfl)
                  · rw [if_neg (by simp; omega)]
                    exact (World.cell?_setCell_other _ _ _ _ (by simp [Ne.symm hjr])).trans (hc8.out j hj)
                have hf9 : Hid (∀ j : Nat, (w8.setCell ⟨w3.heap.size, r, none⟩ (.string s)).frozen? ⟨w3.heap.size, j, none⟩ = false) := fun j => by rw [World.frozen?_setCell]; exact hf8.out j
                go_wp2_with fail
                go_roundw
                case rel => exact ⟨k + 1, P ++ [((r : Int), s)], by omega, by omega, by go_num, by simp [hP], hin9, hc9, hf9⟩
                case measure => simp [intOf]; omega
            · have hki' : ¬ (k : Int) < (ks.length : Int) := by omega
              have hK : Dk.kept (P ++ [((r : Int), s)]) ks = Dk.kept P ks := by rw [Dk.kept_append, hP, List.getElem?_eq_none (by omega)]; simp
              have hc9 : Hid (∀ j : Nat, j < 4 → w8.cell? ⟨w3.heap.size, j, none⟩ = some (.string (Dk.vl (Dk.puts H (Dk.kept (P ++ [((r : Int), s)]) ks)) j))) := by rw [hK]; exact hc8
              clear hK
              go_wp2_with fail
              go_roundw
              case rel => exact ⟨k + 1, P ++ [((r : Int), s)], by omega, by omega, by go_num, by simp [hP], hin8, hc9, hf8⟩
              case measure => simp [intOf]; omega
          · by_cases hz : k < z0.length
            all_goals
              go_wp2
              go_meet
              exact ⟨rfl, rfl, P, by omega, hin5, hc5⟩
      case rest =>
        obtain ⟨rfl, rfl, P, hPl, hin5, hc5⟩ := hcut
        go_wp2_with fail
        refine (crash_inR _ ks hin5 (by simp; omega) (HR1.out.below hin5.2.1 (Nat.le_refl _))).mono ?_
        rintro e w6 ⟨rfl, hin6, hsm6⟩
        replace hin6 : Dk.InR w.heap.size w w6 a ⟨none, 4, Dk.puts H (Dk.kept P ks), 4 + P.length, []⟩ [w3.heap.size] := hin6
        have hc6 : Hid (∀ j : Nat, j < 4 → w6.cell? ⟨w3.heap.size, j, none⟩ = some (.string (Dk.vl (Dk.puts H (Dk.kept P ks)) j))) := fun j hj => (World.cell?_of_block (a := ⟨w3.heap.size, j, none⟩) (hsm6 _ (by simp))).trans (hc5.out j hj)
        generalize Dk.puts H (Dk.kept P ks) = H2 at *
        generalize hC : 4 + P.length = C at *
        have hC2 : C ≤ 24 := by omega
        clear hC hPl hin5 hc5 hin4 HC HF hsm6
        go_wp2_with fail
        go_loopw [13] (fun i wr => ∃ k : Nat, k ≤ 4 ∧ i = .int .i64 k ∧ Dk.InR w.heap.size w wr a ⟨none, 4, H2, C, []⟩ [w3.heap.size] ∧ Hid (∀ j : Nat, j < 4 → wr.cell? ⟨w3.heap.size, j, none⟩ = some (.string (Dk.vl H2 j)))) (fun i _ => 4 - (intOf i).toNat)
        case atStart => exact ⟨0, Nat.zero_le _, rfl, hin6, hc6⟩
        case round =>
          obtain ⟨k, hk, rfl, hin7, hc7⟩ := hrel
          by_cases hlt : k < 4
          · have hx : (k : Int) < 4 := by omega
            go_wp2_with fail
            have hrd : Hid (Dk.read ⟨none, 4, H2, C, []⟩ k = (Dk.vl H2 k, 0)) := by
              show _ = _
              rw [Dk.read_in _ _ (by omega) hx, Dk.at_vl]
              rfl
            refine (read_in _ (k : Int) hin7.to_in (by simp) (WalkArith.wf_i64 (by omega)) hrd.out).mono ?_
            rintro e w8 ⟨rfl, hb8⟩
            obtain ⟨hin8, hsm8⟩ := hin7.below hb8
            have hc8 : Hid (∀ j : Nat, j < 4 → w8.cell? ⟨w3.heap.size, j, none⟩ = some (.string (Dk.vl H2 j))) := fun j hj => (World.cell?_of_block (a := ⟨w3.heap.size, j, none⟩) (hsm8 _ (by simp))).trans (hc7.out j hj)
            have hcell := hc8.out k hlt
            clear hrd
            generalize Dk.vl H2 (k : Int) = t at hcell ⊢
            go_wp2_with fail
            go_roundw
            case rel => exact ⟨k + 1, by omega, by go_num, hin8, hc8⟩
            case measure => simp [intOf]; omega
          · obtain rfl : k = 4 := by omega
            go_wp2_with fail
            refine (dfixed_any _).mono ?_
            rintro e w9 ⟨rfl, hb9⟩
            go_wp2_with fail
            go_ret
            exact ⟨rfl, (hin7.below hb9).1.2.1⟩
end Go.Proofs.Ytienbgfmhllgmaa
