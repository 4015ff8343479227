/- The walks of stetlaw04's Do and Same. -/
import Derived.Test.YtienbgfmhllgmaaRows
import Derived.Test.YtienbgfmhllgmaaKit
import Derived.Test.YtienbgfmhllgmaaSep
import Derived.Test.YtienbgfmhllgmaaDkOne
import Derived.Test.YtienbgfmhllgmaaDr7
namespace Go.Proofs.Ytienbgfmhllgmaa
open Go.RowKit

/-- Whatever lies in one block. -/
def HP.box (b : Nat) (o : Obj) : HP := ⟨fun w F => F = [b] ∧ w.heap[b]? = some o, fun w F h k hk => by
  obtain ⟨rfl, h⟩ := h
  simp at hk
  subst hk
  exact lt_of_block h, fun w w' F h hk => by
  obtain ⟨rfl, h⟩ := h
  exact ⟨rfl, (hk b (by simp)).trans h⟩⟩
theorem HP.Own.box {B : Nat} {w0 w : World} {P : HP} (h : HP.Own B w0 w P) (o : Obj) : HP.Own B w0 (w.alloc o) (HP.box w.heap.size o ⊗ P) :=
  h.add ((Below.refl _ _).alloc (Nat.le_refl _) o) ⟨_, ⟨rfl, heap_alloc_new _ _⟩, by simp⟩
theorem HP.Own.snd {B : Nat} {w0 w : World} {P Q : HP} (h : HP.Own B w0 w (P ⊗ Q)) : HP.Own B w0 w Q := h.has (HP.Has.snd P Q)
theorem HP.Own.fst {B : Nat} {w0 w : World} {P Q : HP} (h : HP.Own B w0 w (P ⊗ Q)) : HP.Own B w0 w P := h.has (HP.Has.fst P Q)
theorem HP.Own.rot {B : Nat} {w0 w : World} {P Q R : HP} (h : HP.Own B w0 w (P ⊗ (Q ⊗ R))) : HP.Own B w0 w (Q ⊗ (P ⊗ R)) := h.has (HP.Has.rot P Q R)
theorem HP.Own.rot3 {B : Nat} {w0 w : World} {P Q R S : HP} (h : HP.Own B w0 w (P ⊗ (Q ⊗ (R ⊗ S)))) : HP.Own B w0 w (Q ⊗ (R ⊗ (P ⊗ S))) :=
  h.has ((HP.Has.rot P Q (R ⊗ S)).trans (HP.Has.mono (HP.Has.refl Q) (HP.Has.rot P R S)))
theorem HP.Own.obj {B : Nat} {w0 w : World} {P : HP} {b : Nat} {o : Obj} (h : HP.Own B w0 w P) (hq : HP.Has P (HP.box b o)) : w.heap[b]? = some o := by
  obtain ⟨F, h1, _⟩ := h
  obtain ⟨G, ⟨_, h2⟩, _⟩ := hq w F h1
  exact h2
theorem HP.Has.in3 (P Q R S : HP) : HP.Has (P ⊗ (Q ⊗ (R ⊗ S))) R := (HP.Has.snd _ _).trans ((HP.Has.snd _ _).trans (HP.Has.fst _ _))

/-- The cells of a call's own copy of an Op. -/
def opBox (k i : Int) (x : ByteArray) (A : Option Addr) (m c : Nat) : Obj := .cells #[.int .i64 k, .int .i64 i, .string x, .slice A m c] 51 (0, 0)
theorem opBox_cells {w : World} {b : Nat} {k i : Int} {x : ByteArray} {A : Option Addr} {m c : Nat} (h : w.heap[b]? = some (opBox k i x A m c)) :
    w.cell? ⟨b, 0, none⟩ = some (.int .i64 k) ∧ w.cell? ⟨b, 1, none⟩ = some (.int .i64 i) ∧ w.cell? ⟨b, 2, none⟩ = some (.string x) ∧ w.cell? ⟨b, 3, none⟩ = some (.slice A m c) :=
  ⟨by rw [Dk.cell_of h]; rfl, by rw [Dk.cell_of h]; rfl, by rw [Dk.cell_of h]; rfl, by rw [Dk.cell_of h]; rfl⟩

/-- What Do leaves: both disks, the same. -/
def DoPost (B : Nat) (w0 : World) (a c : Nat) (s : Dk.St) (Q : HP) (w' : World) : Prop :=
  ∃ s' t', Rd.Rel s' t' ∧ s'.pend.length + s'.cnt ≤ s.pend.length + s.cnt + 1 ∧ HP.Own B w0 w' (Dk.part a s' ⊗ (Rd.part c t' ⊗ Q))

def cut70 (t : ByteArray) : ByteArray := t.extract 0 (min t.size 70)
theorem cut70_run (t : ByteArray) (w : World) : (Instr.sliceAt 9 (.string t) none (some (.int .i64 (if 70 < (t.size : Int) then (70 : Int) else (t.size : Int)))) none).run Try.prog w = .ok (.string (cut70 t)) w := by
  obtain ⟨m, hm⟩ : ∃ m, m = min t.size 70 := ⟨_, rfl⟩
  have hif1 : (if 70 < (t.size : Int) then (70 : Int) else (t.size : Int)) = (m : Int) := by split <;> omega
  rw [hif1, run_sliceAt_string (h := Try.underlying9), run_slice_string_h]
  · simp [cut70, hm]
  · exact Try.underlying9
  · omega
  · omega
theorem cut70_size (t : ByteArray) : (cut70 t).size < 1000000 := by
  simp [cut70, ByteArray.size_extract]; omega

theorem Rd.Rel.len {s : Dk.St} {t : Rd.St} (h : Rd.Rel s t) : t.pend.length = s.pend.length := by rw [h.pend]
theorem dk_write_cnt (s : Dk.St) (i : Int) (u : ByteArray) : (Dk.write s i u).2.pend.length + (Dk.write s i u).2.cnt ≤ s.pend.length + s.cnt + 1 := by
  unfold Dk.write
  split
  · simp
  · split
    · simp
    · split
      · simp
      · simp; omega
theorem dk_sync_cnt (s : Dk.St) : (Dk.sync s).2.pend.length + (Dk.sync s).2.cnt ≤ s.pend.length + s.cnt + 1 := by
  unfold Dk.sync
  split
  · simp
  · simp; omega
theorem dk_crash_cnt (s : Dk.St) (ks : List Bool) : (Dk.crash s ks).pend.length + (Dk.crash s ks).cnt ≤ s.pend.length + s.cnt + 1 := by simp [Dk.crash]; omega

set_option maxRecDepth 100000 in
set_option maxHeartbeats 2000000 in
theorem do_any {B : Nat} {w0 w : World} {a c : Nat} {s : Dk.St} {t : Rd.St} {Q : HP} (k i : Int) (x : ByteArray) (v : Value) (ks : List Bool) (hrel : Rd.Rel s t)
    (h : HP.Own B w0 w (Dk.part a s ⊗ (Rd.part c t ⊗ Q))) (hp : s.pend.length + s.cnt < 100000) (hi : (Lit.int .i64 i).wf = true) (hr : Row Value.bool w0 B v ks) :
    Calls Try.prog 19 #[.pointer (some ⟨a, 0, none⟩), .pointer (some ⟨c, 0, none⟩), .agg #[.int .i64 k, .int .i64 i, .string x, v]] w fun e w' => e = .returned (.int .i64 1) ∧ DoPost B w0 a c s Q w' := by
  have HR := Lib.hid hr
  obtain ⟨A, cp, rfl, l1, m1, _⟩ := hr.shape
  have h1 : HP.Own B w0 (w.alloc (opBox k i x A ks.length cp)) (Dk.part a s ⊗ (Rd.part c t ⊗ (HP.box w.heap.size (opBox k i x A ks.length cp) ⊗ Q))) := (h.box (opBox k i x A ks.length cp)).rot3
  obtain ⟨q0, q1, q2, q3⟩ := opBox_cells (h1.obj (HP.Has.in3 _ _ _ _))
  obtain ⟨n, hif⟩ : ∃ n : Nat, (if 70 < (x.size : Int) then (70 : Int) else (x.size : Int)) = (n : Int) := ⟨min x.size 70, by split <;> omega⟩
  have hsl := fun w => cut70_run x w
  rw [hif] at hsl
  obtain ⟨z, hz⟩ : ∃ z, z = cut70 x := ⟨_, rfl⟩
  have hzz : z.size < 1000000 := hz ▸ cut70_size x
  rw [← hz] at hsl
  obtain ⟨m, hm⟩ : ∃ m, bits .and .i64 k 7 = m := ⟨_, rfl⟩
  have hq : m = 0 ∨ m = 1 ∨ m = 2 ∨ m = 3 ∨ m = 4 ∨ m = 5 ∨ ((m == 0) = false ∧ (m == 1) = false ∧ (m == 2) = false ∧ (m == 3) = false ∧ (m == 4) = false ∧ (m == 5) = false) := by
    simp; omega
  clear h hr hz
  unfold opBox at q0 q1 q2 q3
  go_enter Try.func19, Try.ntmps19
  go_upto_block 0 with fail
  generalize hW : w.alloc (Obj.cells #[Value.int IntKind.i64 k, Value.int IntKind.i64 i, Value.string x, Value.slice A ks.length cp] 51) = W at *
  have h2 : HP.Own B w0 W (Dk.part a s ⊗ (Rd.part c t ⊗ (HP.box w.heap.size (opBox k i x A ks.length cp) ⊗ Q))) := hW ▸ h1
  clear h1
  have HW := Lib.hid hW
  clear hW
  generalize w.heap.size = b at *
  have hpt : t.pend.length < 1000000 := by rw [hrel.len]; omega
  have hps : s.pend.length < 1000000 := by omega
  have hpc : s.pend.length + s.cnt < 1000000 := by omega
  have hrl := Lib.hid hrel
  go_cut [6] (fun r wx => r = .int .i64 0 ∧ DoPost B w0 a c s (HP.box b (opBox k i x A ks.length cp) ⊗ Q) wx)
  case first =>
    rcases hq with rfl | rfl | rfl | rfl | rfl | rfl | ⟨e0, e1, e2, e3, e4, e5⟩
    case inr.inr.inr.inl =>
      go_wp2_with fail
      refine (oSync _ h2 hpc rfl).mono ?_
      rintro e w2 ⟨rfl, h3⟩
      go_wp2_with fail
      refine (orSync _ h3.rot hpt hrl.out.sync.1).mono ?_
      rintro e w3 ⟨rfl, h4⟩
      go_wp2_with fail
      go_meet
      exact ⟨rfl, _, _, hrl.out.sync.2, dk_sync_cnt s, h4.rot⟩
    case inr.inr.inr.inr.inl =>
      go_wp2_with fail
      refine (oLimit i hi h2).mono ?_
      rintro e w2 ⟨rfl, h3⟩
      have q1' := (opBox_cells (h3.obj (HP.Has.in3 _ _ _ _))).2.1
      go_wp2_with fail
      refine (orLimit i hi h3.rot).mono ?_
      rintro e w3 ⟨rfl, h4⟩
      go_wp2_with fail
      go_meet
      exact ⟨rfl, _, _, hrl.out.limit i, Nat.le_succ _, h4.rot⟩
    case inr.inr.inr.inr.inr.inl =>
      go_wp2_with fail
      refine (oCrash _ ks h2 hpc (HR.out.below h2.bel (Nat.le_refl _))).mono ?_
      rintro e w2 ⟨rfl, h3⟩
      have q3' := (opBox_cells (h3.obj (HP.Has.in3 _ _ _ _))).2.2.2
      go_wp2_with fail
      refine (orCrash _ ks h3.rot hpt (HR.out.below h3.bel (Nat.le_refl _))).mono ?_
      rintro e w3 ⟨rfl, h4⟩
      go_wp2_with fail
      go_meet
      exact ⟨rfl, _, _, hrl.out.crash ks, dk_crash_cnt s ks, h4.rot⟩
    case inr.inr.inr.inr.inr.inr =>
      go_wp2_with fail
      go_meet
      exact ⟨rfl, _, _, hrl.out, Nat.le_succ _, h2⟩
    all_goals
      have hwr := Lib.hid (hrl.out.write i z)
      have h2' : HP.Own B w0 W.drew (Dk.part a s ⊗ (Rd.part c t ⊗ (HP.box b (opBox k i x A ks.length cp) ⊗ Q))) := h2.drewN 1
      clear h2
      go_wp2_with fail
      go_region_held3 (fun wx => wx.cell? ⟨b, 1, none⟩ = some (.int .i64 i)) (go_keep) (first
          | (have h3x := h3; go_at_call 29; refine (orWrite _ i z h3x.rot hpt hzz hi hwr.out.1).mono ?_; rintro e w3 ⟨rfl, h4⟩; have q1'' := (opBox_cells (h4.obj (HP.Has.in3 _ _ _ _))).2.1; dsimp only)
          | (go_at_call 9; refine (oWrite _ i z h2' hps hzz hi rfl).mono ?_; rintro e w2 ⟨rfl, h3⟩; have q1' := (opBox_cells (h3.obj (HP.Has.in3 _ _ _ _))).2.1; dsimp only))
      go_wp2_with fail
      go_meet
      exact ⟨rfl, _, _, hwr.out.2, dk_write_cnt s i z, h4.rot⟩
  case rest =>
    obtain ⟨rfl, s', t', hrel', hcnt', h5⟩ := hcut
    have HRL := Lib.hid hrel'
    have hcnt := Lib.hid hcnt'
    have r1 := (opBox_cells (h5.obj (HP.Has.in3 _ _ _ _))).2.1
    have p1 : s'.pend.length < 1000000 := by omega
    have p2 : t'.pend.length < 1000000 := by rw [hrel'.len]; omega
    have hrd := Lib.hid (hrel'.read i)
    clear h2 hpt hps hpc hcnt' hrel' q0 q1 q2 q3 hif hsl hm hzz hq
    generalize hg : Dk.read s' i = g at *
    have HG := Lib.hid hg
    clear hg
    go_wp2_with fail
    refine (oRead g i h5 p1 hi HG.out).mono ?_
    rintro e w6 ⟨rfl, hb6⟩
    have h6 := h5.below hb6
    have r1' := (opBox_cells (h6.obj (HP.Has.in3 _ _ _ _))).2.1
    go_wp2_with fail
    refine (orRead g i h6.rot p2 hi hrd.out).mono ?_
    rintro e w7 ⟨rfl, rfl⟩
    obtain ⟨⟨A0, c0, k0⟩, ⟨A1, c1, k1⟩, _, _⟩ := orCells h6.rot
    have HL := Lib.hid HRL.out.len
    have HN := Lib.hid HRL.out.n
    rw [HL.out] at k1
    go_wp2_with fail
    go_quiet ((first | (go_at_call 11; exact Calls.quiet_of_same ((oPending (h6.drewN _)).mono fun _ _ ⟨h1, h2⟩ => ⟨h1, h2.symm⟩)) | (go_at_call 26; exact Calls.quiet_of_same ((oLen (h6.drewN _)).mono fun _ _ ⟨h1, h2⟩ => ⟨h1, h2.symm⟩))))
    have hn2 : (s'.n != (t'.L.length : Int)) = false := by simp [HN.out]
    go_wp2_with fail
    go_ret
    exact ⟨rfl, s', t', HRL.out, hcnt.out, (h6.drewN _).has (HP.Has.mono (HP.Has.refl _) (HP.Has.mono (HP.Has.refl _) (HP.Has.snd _ _)))⟩

set_option maxHeartbeats 1000000 in
theorem same_any {B : Nat} {w0 w : World} {a c : Nat} {s : Dk.St} {t : Rd.St} {Q : HP} (hrel : Rd.Rel s t) (h : HP.Own B w0 w (Dk.part a s ⊗ (Rd.part c t ⊗ Q))) (hp : s.pend.length < 1000000) :
    Calls Try.prog 20 #[.pointer (some ⟨a, 0, none⟩), .pointer (some ⟨c, 0, none⟩)] w fun e w' => e = .returned (.int .i64 1) ∧ HP.Own B w0 w' (Dk.part a s ⊗ (Rd.part c t ⊗ Q)) := by
  have HL := Lib.hid (show t.L.length ≤ 4096 from (orCells h.rot).2.2.2)
  have hL := HL.out
  have HR := Lib.hid hrel
  have hpt : t.pend.length < 1000000 := by rw [hrel.len]; exact hp
  clear hrel
  go_enter Try.func20, Try.ntmps20
  go_wp2_with fail
  go_loopw [5] (fun i wr => ∃ k : Nat, k ≤ t.L.length ∧ i = .int .i64 k ∧ HP.Own B w0 wr (Dk.part a s ⊗ (Rd.part c t ⊗ Q))) (fun i _ => t.L.length - (intOf i).toNat)
  case atStart => exact ⟨0, Nat.zero_le _, rfl, h⟩
  case round =>
    obtain ⟨k, hk, rfl, h2⟩ := hrel
    obtain ⟨⟨A0, c0, k0⟩, _, _, _⟩ := orCells h2.rot
    by_cases hlt : k < t.L.length
    · have hx : (k : Int) < (t.L.length : Int) := by omega
      obtain ⟨g, hg⟩ : ∃ g, g = Rd.get t.L k := ⟨_, rfl⟩
      have hrd : Hid (Rd.read t k = (Rd.rd t.pend k (Rd.get t.L k), 0)) := by
        show _ = _
        rw [Rd.read, if_neg]
        simp [Rd.has]; omega
      have hrs : Hid (Dk.read s k = (Rd.rd t.pend k (Rd.get t.L k), 0)) := (HR.out.read k).symm.trans hrd.out
      generalize Rd.rd t.pend k (Rd.get t.L k) = r at hrd hrs
      go_wp2_with fail
      refine (oRead _ (k : Int) h2 hp (WalkArith.wf_i64 (by omega)) hrs.out).mono ?_
      rintro e w6 ⟨rfl, hb6⟩
      have h6 := h2.below hb6
      go_wp2_with fail
      refine (orRead _ (k : Int) h6.rot hpt (WalkArith.wf_i64 (by omega)) hrd.out).mono ?_
      rintro e w7 ⟨rfl, rfl⟩
      go_wp2_with fail
      go_roundw
      case rel => exact ⟨k + 1, by omega, by go_num, h6⟩
      case measure => simp [intOf]; omega
    · obtain rfl : k = t.L.length := by omega
      go_wp2_with fail
      go_ret
      exact ⟨rfl, h2⟩
end Go.Proofs.Ytienbgfmhllgmaa
