/- (*Store).lay. · Commit's deferred closure. · How Commit is left: behind a panic, and without one. · A region that draws its order: what only reads, and then lays one block, ahead of a tail in one order. · What a commit that the disk stopped leaves; posts at a panic that hang on the frame. · (*Store).Commit. · The reference's Right. -/
import Derived.Test.YtkoegbjnhoecoaaGreatDoorH6
import Derived.Defers
import Derived.Recover
import Derived.Test.YtkoegbjnhoecoaaGreatDoorH1
import Derived.OrdersHeld
import Derived.StillTail
import Derived.Test.YtkoegbjnhoecoaaGreatDoorH3
namespace Go.Proofs.YtkoegbjnhoecoaaGreatDoor
open Go.RowKit Tx

theorem sync_inR {B : Nat} {w0 w : World} {a : Nat} {s : Dk.St} {R : List Nat} (r : Int) (h : Dk.InR B w0 w a s R) (hp : s.pend.length + s.cnt < 1000000) (hr : (Dk.sync s).1 = r) :
    Calls Tryz.prog 32 #[.pointer (some ⟨a, 0, none⟩)] w fun e w' => e = .returned (.int .i64 r) ∧ Dk.InR B w0 w' a (Dk.sync s).2 R ∧ Dk.Same R w w' := by
  obtain ⟨hB, hb, hR, F, hF, hF2⟩ := h
  exact (dSync_any a s F w hF hp).mono fun _ _ ⟨h1, h2⟩ => ⟨hr ▸ h1, Dk.InR.does hB hb hR hF2 h2⟩
theorem write_yes (s : Dk.St) (i : Nat) (t : ByteArray) (hi : (i : Int) < s.n) (ht : t.size ≤ 64) (hd : Dk.dead s.lim = false) : Dk.write s i t = (0, { s with lim := Dk.used s.lim, pend := s.pend ++ [((i : Int), t)] }) := by
  have h1 : Dk.has s (i : Int) = true := by unfold Dk.has; simp [hi]
  unfold Dk.write
  rw [h1, hd, if_neg (by simp), if_neg (by omega), if_neg (by simp)]
theorem write_no (s : Dk.St) (i : Nat) (t : ByteArray) (hi : (i : Int) < s.n) (ht : t.size ≤ 64) (hd : Dk.dead s.lim = true) : Dk.write s i t = (8, s) := by
  have h1 : Dk.has s (i : Int) = true := by unfold Dk.has; simp [hi]
  unfold Dk.write
  rw [h1, hd, if_neg (by simp), if_neg (by omega), if_pos rfl]
theorem inR_drew {B : Nat} {w0 w : World} {a : Nat} {s : Dk.St} {R : List Nat} (h : Dk.InR B w0 w a s R) : Dk.InR B w0 w.drew a s R := (h.below ((Below.refl _ _).drew)).1
theorem dead_some {l : Option Int} (h : Dk.dead l = true) : l ≠ none := by rintro rfl; cases h
theorem Same.trans {R : List Nat} {w w1 w2 : World} (h : Dk.Same R w w1) (h2 : Dk.Same R w1 w2) : Dk.Same R w w2 := fun k hk => (h2 k hk).trans (h k hk)
/-- What stays of a disk while a half is written. -/
structure Base (d d' : Dk.St) : Prop where
  n : d'.n = d.n
  live : d.lim = none → d'.lim = none
/-- A half was written, and synced. -/
structure LaidA (n a : Nat) (U : Bs) (d d' : Dk.St) : Prop where
  base : Base d d'
  held : d'.held = Dk.puts d.held (Sq.lay n a U (Sq.cnt U))
  pend : d'.pend = []
  cnt : d'.cnt = d.cnt + Sq.cnt U
  alive : Dk.dead d.lim = false
/-- The disk stopped meanwhile. -/
structure LaidB (n a : Nat) (U : Bs) (d d' : Dk.St) : Prop where
  base : Base d d'
  held : d'.held = d.held
  pend : ∃ k, k ≤ Sq.cnt U ∧ d'.pend = Sq.lay n a U k
  cnt : d'.cnt = d.cnt
  lim : d.lim ≠ none
  first : Dk.dead d.lim = true → d'.pend = []
/-- So far. -/
structure LaidK (n a : Nat) (U : Bs) (k : Nat) (d d' : Dk.St) : Prop where
  base : Base d d'
  held : d'.held = d.held
  pend : d'.pend = Sq.lay n a U k
  cnt : d'.cnt = d.cnt
  zero : k = 0 → d'.lim = d.lim
  more : 0 < k → Dk.dead d.lim = false
theorem LaidK.start (n a : Nat) (U : Bs) (d : Dk.St) (hp : d.pend = []) : LaidK n a U 0 d d := ⟨⟨rfl, id⟩, rfl, by rw [hp]; rfl, rfl, fun _ => rfl, fun h => absurd h (by omega)⟩
theorem LaidK.dead {n a : Nat} {U : Bs} {k : Nat} {d d' : Dk.St} (h : LaidK n a U k d d') (hk : k ≤ Sq.cnt U) (hd : Dk.dead d'.lim = true) : LaidB n a U d d' :=
  ⟨h.base, h.held, ⟨k, hk, h.pend⟩, h.cnt, fun e => dead_some hd (h.base.live e), fun e => by
    rcases Nat.eq_zero_or_pos k with h0 | h0
    · rw [h.pend, h0]; rfl
    · rw [h.more h0] at e; cases e⟩
theorem used_none {l : Option Int} (h : l = none) : Dk.used l = none := by rw [h]; rfl
theorem LaidK.alive {n a : Nat} {U : Bs} {k : Nat} {d d' : Dk.St} (h : LaidK n a U k d d') (hd : Dk.dead d'.lim = false) : Dk.dead d.lim = false := by
  rcases Nat.eq_zero_or_pos k with e | e
  · rw [← h.zero e]; exact hd
  · exact h.more e
theorem LaidK.step {n a : Nat} {U : Bs} {k : Nat} {d d' : Dk.St} (h : LaidK n a U k d d') (hd : Dk.dead d'.lim = false) : LaidK n a U (k + 1) d { d' with lim := Dk.used d'.lim, pend := d'.pend ++ [(((Sq.from_ n a + k : Nat) : Int), bs (Sq.chunk U k))] } :=
  ⟨⟨h.base.n, fun e => used_none (h.base.live e)⟩, h.held, by rw [Sq.lay_succ, ← h.pend], h.cnt, fun e => absurd e (by omega), fun _ => h.alive hd⟩
theorem sync_yes (s : Dk.St) (hd : Dk.dead s.lim = false) : Dk.sync s = (0, { s with lim := Dk.used s.lim, held := Dk.puts s.held s.pend, cnt := s.cnt + s.pend.length, pend := [] }) := by
  unfold Dk.sync
  rw [hd, if_neg (by simp)]
theorem sync_no (s : Dk.St) (hd : Dk.dead s.lim = true) : Dk.sync s = (8, s) := by
  unfold Dk.sync
  rw [hd, if_pos rfl]
theorem LaidK.sync {n a : Nat} {U : Bs} {d d' : Dk.St} (h : LaidK n a U (Sq.cnt U) d d') (hd : Dk.dead d'.lim = false) : LaidA n a U d { d' with lim := Dk.used d'.lim, held := Dk.puts d'.held d'.pend, cnt := d'.cnt + d'.pend.length, pend := [] } :=
  ⟨⟨h.base.n, fun e => used_none (h.base.live e)⟩, by rw [← h.pend, ← h.held], rfl, by simp only [h.pend, Sq.lay_len, h.cnt], h.alive hd⟩
def LayPost (B : Nat) (w0 w : World) (bd n a : Nat) (U : Bs) (d : Dk.St) (R : List Nat) (e : Ending) (w' : World) : Prop :=
  ∃ d', Dk.InR B w0 w' bd d' R ∧ Dk.Same R w w' ∧ ((e = .returned (.tuple #[]) ∧ LaidA n a U d d') ∨ (e = .panicked deadV ∧ LaidB n a U d d'))
set_option maxRecDepth 100000 in
set_option maxHeartbeats 8000000 in
theorem lay_any {B : Nat} {w0 w : World} {bd : Nat} {d : Dk.St} {R : List Nat} (n a sb : Nat) (h0 h1 : Sq.Head) (fv : Value) (U : Bs) (h : Dk.InR B w0 w bd d R) (hm : sb ∈ R) (hs : w.heap[sb]? = some (SBlk bd h0 h1 fv)) (hn : d.n = (n : Int)) (h4 : 4 ≤ n ∧ n ≤ 4096) (ha : a ≤ 1)
    (hp : d.pend = []) (hc : d.cnt < 900000) (hU : U.length ≤ 64 * Sq.half n) :
    Calls Tryz.prog 28 #[.pointer (some ⟨sb, 0, none⟩), .int .i64 a, vs U] w (LayPost B w0 w bd n a U d R) := by
  have HL := Lib.hid (len_in h.to_in)
  have HHA := Lib.hid (half_any n h4)
  have hql := half_le n h4.2
  have hcl := Sq.cnt_le hU
  have hK0 := LaidK.start n a U d hp
  have HIN := Lib.hid h
  have HQ : Hid (Sq.half n = (n - 2) / 2) := Lib.hid rfl
  have HFR : Hid (Sq.from_ n a = 2 + a * Sq.half n) := Lib.hid rfl
  rw [hn] at HL
  have HS : Hid (∀ wx, Dk.Same R w wx → wx.cell? ⟨sb, 0, none⟩ = some (.pointer (some ⟨bd, 0, none⟩))) := Lib.hid (fun wx hx => (sblk_cells (w := wx) ((hx sb hm).trans hs)).1)
  have d0 := (sblk_cells hs).1
  have HN := Lib.hid hn
  obtain ⟨q, hq⟩ : ∃ q, q = Sq.half n := ⟨_, rfl⟩
  rw [← hq] at hql hcl HHA HQ HFR
  obtain ⟨f, hf⟩ : ∃ f, f = a * q := ⟨_, rfl⟩
  have hfl : f ≤ q := by rw [hf]; rcases (by omega : a = 0 ∨ a = 1) with rfl | rfl <;> simp
  have v1 : IntKind.i64.wrap ((a : Int) * (q : Int)) = (f : Int) := by rw [hf, IntWalk.i64_in _ (by rcases (by omega : a = 0 ∨ a = 1) with rfl | rfl <;> simp <;> omega)]; simp
  have v2 : IntKind.i64.wrap (2 + (f : Int)) = ((2 + f : Nat) : Int) := by rw [IntWalk.i64_in _ (by omega)]; omega
  obtain ⟨F, hF⟩ : ∃ F, F = 2 + f := ⟨_, rfl⟩
  rw [← hF] at v2
  have HFF : Hid (Sq.from_ n a = F) := Lib.hid (by rw [HFR.out, hF, hf])
  have HFL : Hid (F + q ≤ n) := Lib.hid (by rw [hF]; have := HQ.out; omega)
  have hFl : F ≤ 3000 := by omega
  have hul : U.length ≤ 200000 := by have := hq; omega
  clear hf hF HFR hq h hn hs hp
  go_enter Tryz.func28, Tryz.ntmps28
  go_wp2_with fail
  refine HL.out.mono ?_
  rintro e w1 ⟨rfl, rfl⟩
  go_wp2_with fail
  refine (HHA.out w).mono ?_
  rintro e w1 ⟨rfl, rfl⟩
  go_wp2_with fail
  go_loopw [2, 7] (fun t i wr => ∃ (k : Nat) (dk : Dk.St), k ≤ Sq.cnt U ∧ t = vs (U.drop (64 * k)) ∧ i = .int .i64 k ∧ Dk.InR B w0 wr bd dk R ∧ Dk.Same R w wr ∧ LaidK n a U k d dk) (fun _ i _ => Sq.cnt U - (RowKit.intOf i).toNat)
  case atStart => exact ⟨0, d, Nat.zero_le _, by simp, rfl, HIN.out, fun _ _ => rfl, hK0⟩
  case round =>
    clear hK0 d0
    obtain ⟨k, dk, hk, rfl, rfl, hin, hsame, hK⟩ := hrel
    have c0 := HS.out wr hsame
    have HI := Lib.hid hin
    have HSM := Lib.hid hsame
    have HK := Lib.hid hK
    obtain ⟨X, hX⟩ : ∃ X, X = U.drop (64 * k) := ⟨_, rfl⟩
    have hXl : X.length = U.length - 64 * k := by rw [hX]; simp
    have hz := bs_size X
    have hpl : dk.pend.length < 1000000 := by rw [hK.pend, Sq.lay_len]; omega
    have hcn : dk.cnt = d.cnt := hK.cnt
    have hpk : dk.pend.length = k := by rw [hK.pend, Sq.lay_len]
    have hdn : dk.n = (n : Int) := hK.base.n.trans HN.out
    rw [← hX]
    by_cases hlt : k < Sq.cnt U
    · have hpos : 0 < (X.length : Int) := by unfold Sq.cnt at hlt; omega
      obtain ⟨m, hm⟩ : ∃ m : Nat, m = min 64 X.length := ⟨_, rfl⟩
      have hmin : min (64 : Int) (X.length : Int) = (m : Int) := by omega
      have hif : (if (X.length : Int) < 64 then (X.length : Int) else 64) = (m : Int) := by split <;> omega
      have hif2 : (if 64 < (X.length : Int) then 64 else (X.length : Int)) = (m : Int) := by split <;> omega
      have hif3 : (if 64 ≤ (X.length : Int) then 64 else (X.length : Int)) = (m : Int) := by split <;> omega
      have m0 : (0 : Int) ≤ (m : Int) := by omega
      have m1 : (m : Int) ≤ (X.length : Int) := by omega
      have x1 : (bs X).extract 0 m = bs (Sq.chunk U k) := by
        rw [bs_extract', List.drop_zero, hX]
        unfold Sq.chunk
        congr 1
        rw [hm, hX]
        rw [List.take_eq_take_iff]
        simp
      have x2 : (bs X).extract m X.length = bs (U.drop (64 * (k + 1))) := by
        rw [bs_extract', List.take_length, hX, List.drop_drop]
        by_cases hx : 64 ≤ X.length
        · have : m = 64 := by omega
          rw [this, Nat.mul_succ]
        · rw [List.drop_eq_nil_of_le (by omega), List.drop_eq_nil_of_le (by omega)]
      obtain ⟨G, hG⟩ : ∃ G, G = F + k := ⟨_, rfl⟩
      have hGn : (G : Int) < dk.n := by rw [hdn]; have := HFL.out; omega
      have hGl : G ≤ 6000 := by omega
      have v3 : IntKind.i64.wrap ((F : Int) + (k : Int)) = (G : Int) := by rw [hG, IntWalk.i64_in _ (by omega)]; simp
      have v4 : IntKind.i64.wrap ((k : Int) + 1) = ((k + 1 : Nat) : Int) := by rw [IntWalk.i64_in _ (by omega)]; simp
      have hGe : Sq.from_ n a + k = G := by rw [HFF.out, hG]
      have hcs : (bs (Sq.chunk U k)).size ≤ 64 := by rw [bs_size]; exact Sq.chunk_len U k
      cases hd : Dk.dead dk.lim with
      | true =>
        have HWR := Lib.hid (write_inR (w := wr.drew) 8 G (bs (Sq.chunk U k)) (inR_drew HI.out) hpl (by omega) (WalkArith.wf_i64 (by omega)) (by rw [write_no dk G _ hGn hcs hd]))
        have HF := Lib.hid (HK.out.dead hk hd)
        rw [write_no dk G _ hGn hcs hd] at HWR
        clear hd hin hsame hK hX hm hG hGn hGe hlt hdn hpk hXl
        go_wp2_with fail
        refine wp_region_quiet_tail 10 (by kernel_rfl) (by kernel_rfl) ?_
        simp only [List.take_succ_cons, List.take_zero, List.drop_succ_cons, List.drop_zero]
        repeat (go_big_quiet_step (fail))
        refine wpQuiet_nil ?_
        go_wp2_with fail
        refine HWR.out.mono ?_
        rintro e w2 ⟨rfl, I2, S2⟩
        go_wp2_with fail
        refine (must_dead w2).mono ?_
        rintro e w3 ⟨rfl, rfl⟩
        exact ⟨rfl, dk, I2, Same.trans HSM.out S2, .inr ⟨rfl, HF.out⟩⟩
      | false =>
        have HWR := Lib.hid (write_inR (w := wr.drew) 0 G (bs (Sq.chunk U k)) (inR_drew HI.out) hpl (by omega) (WalkArith.wf_i64 (by omega)) (by rw [write_yes dk G _ hGn hcs hd]))
        have HF := Lib.hid (HK.out.step hd)
        rw [hGe] at HF
        rw [write_yes dk G _ hGn hcs hd] at HWR
        clear hd hin hsame hK hX hm hG hGn hGe hdn hpk hXl
        go_wp2_with fail
        refine wp_region_quiet_tail 10 (by kernel_rfl) (by kernel_rfl) ?_
        simp only [List.take_succ_cons, List.take_zero, List.drop_succ_cons, List.drop_zero]
        repeat (go_big_quiet_step (fail))
        refine wpQuiet_nil ?_
        go_wp2_with fail
        refine HWR.out.mono ?_
        rintro e w2 ⟨rfl, I2, S2⟩
        go_wp2_with fail
        refine (must_ok w2).mono ?_
        rintro e w3 ⟨rfl, rfl⟩
        go_wp2_with fail
        go_roundw
        case rel => exact ⟨k + 1, _, by omega, rfl, rfl, I2, Same.trans HSM.out S2, HF.out⟩
        case measure => simp [RowKit.intOf]; omega
    · obtain rfl : k = Sq.cnt U := by omega
      have hxe : X = [] := List.eq_nil_of_length_eq_zero (by unfold Sq.cnt at *; omega)
      subst hxe
      clear hX hin hsame hK hz hXl
      have hz : (bs ([] : Bs)).size = 0 := rfl
      cases hd : Dk.dead dk.lim with
      | true =>
        have HSY := Lib.hid (sync_inR 8 HI.out (by omega) (by rw [sync_no dk hd]))
        have HF := Lib.hid (HK.out.dead (Nat.le_refl _) hd)
        rw [sync_no dk hd] at HSY
        clear hd
        go_wp2_with fail
        refine HSY.out.mono ?_
        rintro e w2 ⟨rfl, I2, S2⟩
        go_wp2_with fail
        refine (must_dead w2).mono ?_
        rintro e w3 ⟨rfl, rfl⟩
        exact ⟨rfl, dk, I2, Same.trans HSM.out S2, .inr ⟨rfl, HF.out⟩⟩
      | false =>
        have HSY := Lib.hid (sync_inR 0 HI.out (by omega) (by rw [sync_yes dk hd]))
        have HF := Lib.hid (HK.out.sync hd)
        rw [sync_yes dk hd] at HSY
        clear hd
        go_wp2_with fail
        refine HSY.out.mono ?_
        rintro e w2 ⟨rfl, I2, S2⟩
        go_wp2_with fail
        refine (must_ok w2).mono ?_
        rintro e w3 ⟨rfl, rfl⟩
        go_wp2_with fail
        go_end0
        exact ⟨_, I2, Same.trans HSM.out S2, .inl ⟨rfl, HF.out⟩⟩
end Go.Proofs.YtkoegbjnhoecoaaGreatDoor
namespace Go.Proofs.YtkoegbjnhoecoaaGreatDoor
open Go.RowKit Tx

set_option maxRecDepth 100000 in
set_option maxHeartbeats 2000000 in
theorem catch_panicking (p : Addr) (x : Int) (w : World) (hc : w.cell? p = some (.int .i64 x)) (hz : w.frozen? p = false) :
    CallsD Tryz.prog 26 #[.pointer (some p)] (.panicking deadV) w fun e u' w' =>
      e = .returned (.tuple #[]) ∧ u' = .panicking [{ v := .iface 63 (.agg #[.int .i64 8]), recovered := true }] ∧ w' = (w.alloc (.cells #[.int .i64 8] 63)).setCell p (.int .i64 8) := by
  have hta : ∀ (ti : TypeId) (w : World), (Instr.typeAssert (.iface 63 (.agg #[.int .i64 8])) ti 63 true).run Tryz.prog w = .ok (.tuple #[.agg #[.int .i64 8], .bool true]) w := fun _ _ => by kernel_rfl
  have htn : ∀ (ti : TypeId) (w : World), (Instr.typeAssert .nilIface ti 63 true).run Tryz.prog w = .ok (.tuple #[.agg #[.int .i64 0], .bool false]) w := fun _ _ => by kernel_rfl
  refine callsD_of_wpS Tryz.func26 rfl fun c₀ cs hu => ?_
  apply wpS_seq
  apply wpS_region
  unfold deadV at hu
  simp [wpOpsS, go_sem, recoverD, hu, hta, List.replicate, Array.replicate, Tryz.ntmps26, Exit.thenS]
  apply wpS_seq
  apply wpS_region
  simp [wpOpsS, go_sem, Exit.thenS]
  refine wpS_cond (t := true) (by simp [Act.eval]) ?_
  simp only [if_true]
  have hlt : p.block < w.heap.size := World.block_lt_of_cell? w p (by rw [hc])
  have e1 : (w.alloc (.cells #[.int .i64 8] 63)).cell? ⟨w.heap.size, 0, none⟩ = some (.int .i64 8) := by rw [Lib.cell_of_heap (heap_alloc_new w _)]; rfl
  have e2 : (w.alloc (.cells #[.int .i64 8] 63)).cell? p = some (.int .i64 x) := by rw [World.cell?_alloc_lt _ _ _ hlt]; exact hc
  have e3 : (w.alloc (.cells #[.int .i64 8] 63)).frozen? p = false := by rw [frozen?_alloc_cells]; exact hz
  apply wpS_region
  simp [wpOpsS, go_sem, e1, e2, e3, bodyPostS, results, Tryz.f26]
set_option maxRecDepth 100000 in
set_option maxHeartbeats 2000000 in
theorem catch_idle (p : Addr) (w : World) :
    CallsD Tryz.prog 26 #[.pointer (some p)] .returning w fun e u' w' => e = .returned (.tuple #[]) ∧ u' = .returning ∧ w' = w.alloc (.cells #[.int .i64 0] 63) := by
  have hta : ∀ (ti : TypeId) (w : World), (Instr.typeAssert (.iface 63 (.agg #[.int .i64 8])) ti 63 true).run Tryz.prog w = .ok (.tuple #[.agg #[.int .i64 8], .bool true]) w := fun _ _ => by kernel_rfl
  have htn : ∀ (ti : TypeId) (w : World), (Instr.typeAssert .nilIface ti 63 true).run Tryz.prog w = .ok (.tuple #[.agg #[.int .i64 0], .bool false]) w := fun _ _ => by kernel_rfl
  refine callsD_of_wpS Tryz.func26 rfl fun c₀ cs hu => ?_
  apply wpS_seq
  apply wpS_region
  simp [wpOpsS, go_sem, recoverD, hu, htn, List.replicate, Array.replicate, Tryz.ntmps26, Exit.thenS]
  apply wpS_seq
  apply wpS_region
  simp [wpOpsS, go_sem, Exit.thenS]
  refine wpS_cond (t := false) (by simp [Act.eval]) ?_
  simp only [Bool.false_eq_true, if_false]
  refine wpS_of_wp (wp_skip ?_)
  cases c₀
  simp_all [bodyPostS, results, Tryz.f26]
end Go.Proofs.YtkoegbjnhoecoaaGreatDoor
namespace Go.Proofs.YtkoegbjnhoecoaaGreatDoor
open Go.RowKit Tx

def catchD (rc : Nat) : List Deferred := [{ target := Target.fn (Fn.func 26) #[.pointer (some ⟨rc, 0, none⟩)], args := #[] }]
theorem set_other0 {w : World} {k rc : Nat} (o : Obj) (v : Value) (hk : k < w.heap.size) (h : k ≠ rc) : ((w.alloc o).setCell ⟨rc, 0, none⟩ v).heap[k]? = w.heap[k]? := by
  rw [Below.heap_setCell _ _ _ _ (fun e => h (by simpa using e)), Below.heap_alloc _ _ _ hk]
theorem door_panic {Rr : Ending → World → Prop} {a : Act} {w' : World} {rc : Nat} (hd : a.defers = catchD rc) (h4 : a.tmps[4]? = some (.pointer (some ⟨rc, 0, none⟩))) (hc : w'.heap[rc]? = some (.cells #[.int .i64 0] 31 (0, 0)))
    (h : Rr (.returned (.int .i64 8)) ((w'.alloc (.cells #[.int .i64 8] 63)).setCell ⟨rc, 0, none⟩ (.int .i64 8))) : bodyPostD Tryz.prog Tryz.f12 Rr (Exit.panic deadV) a w' := by
  obtain ⟨tmps, defers⟩ := a
  simp only at hd h4
  subst hd
  unfold catchD
  have hlt := lt_of_block hc
  have c0 : w'.cell? ⟨rc, 0, none⟩ = some (.int .i64 0) := by rw [Lib.cell_of_heap hc]; rfl
  have f0 : w'.frozen? ⟨rc, 0, none⟩ = false := Lib.frozen_of_heap hc 0
  have hc1 : (w'.alloc (.cells #[.int .i64 8] 63)).heap[rc]? = some (.cells #[.int .i64 0] 31 (0, 0)) := (Below.heap_alloc _ _ _ hlt).trans hc
  have hc2 := wr_cells_set (j := 0) hc1 (.int .i64 8)
  have e0 : ((w'.alloc (.cells #[.int .i64 8] 63)).setCell ⟨rc, 0, none⟩ (.int .i64 8)).cell? ⟨rc, 0, none⟩ = some (.int .i64 8) := by rw [Lib.cell_of_heap hc2]; rfl
  refine leaves_cons (f := 26) (args := #[.pointer (some ⟨rc, 0, none⟩)]) (by simp) (by simp [go_sem]) ?_
  refine (catch_panicking ⟨rc, 0, none⟩ 0 w' c0 f0).mono ?_
  rintro e u' w'' ⟨rfl, rfl, rfl⟩
  simp [Leaves, settle, results, Tryz.f12, go_sem, h4, e0]
  exact h
theorem door_ret {Rr : Ending → World → Prop} {a : Act} {w' : World} {rc : Nat} {x : Int} (hd : a.defers = catchD rc) (h4 : a.tmps[4]? = some (.pointer (some ⟨rc, 0, none⟩))) (hc : w'.heap[rc]? = some (.cells #[.int .i64 x] 31 (0, 0)))
    (h : Rr (.returned (.int .i64 x)) (w'.alloc (.cells #[.int .i64 0] 63))) : bodyPostD Tryz.prog Tryz.f12 Rr Exit.ret a w' := by
  obtain ⟨tmps, defers⟩ := a
  simp only at hd h4
  subst hd
  unfold catchD
  have hlt := lt_of_block hc
  have hc2 : (w'.alloc (.cells #[.int .i64 0] 63)).heap[rc]? = some (.cells #[.int .i64 x] 31 (0, 0)) := (Below.heap_alloc _ _ _ hlt).trans hc
  have e0 : (w'.alloc (.cells #[.int .i64 0] 63)).cell? ⟨rc, 0, none⟩ = some (.int .i64 x) := by rw [Lib.cell_of_heap hc2]; rfl
  refine leaves_cons (f := 26) (args := #[.pointer (some ⟨rc, 0, none⟩)]) (by simp) (by simp [go_sem]) ?_
  refine (catch_idle ⟨rc, 0, none⟩ w').mono ?_
  rintro e u' w'' ⟨rfl, rfl, rfl⟩
  simp [Leaves, settle, results, Tryz.f12, go_sem, h4, e0]
  exact h
end Go.Proofs.YtkoegbjnhoecoaaGreatDoor
namespace Go.Proofs.YtkoegbjnhoecoaaGreatDoor
open Go

section
variable {P : Program} {ops : Array Oper} {Q : Exit → Act → World → Prop} {md : Region.Mode} {S : World → Prop}
/-- Whatever order is picked among the first n operations, and S holds behind each of them; behind f of them: L. -/
def wpAnyS (P : Program) (md : Region.Mode) (ops : Array Oper) (Q : Exit → Act → World → Prop) (S : World → Prop) (n : Nat) (L : Array Bool → Act → World → Prop) : Nat → Array Bool → Act → World → Prop
  | 0, listed, a, w => L listed a w
  | f + 1, listed, a, w => Region.ready md ops listed ≠ [] ∧ ∀ i ∈ Region.ready md ops listed, i < n ∧ wpOp P ops Q i (fun a' w' => S w' ∧ wpAnyS P md ops Q S n L f (listed.setIfInBounds i true) a' w') a w
theorem wpAny_of_headS {n g : Nat} {L : Array Bool → Act → World → Prop} (hL : ∀ listed a w, L listed a w → wpAny P md ops Q g listed a w) :
    ∀ (f : Nat) (listed : Array Bool) (a : Act) (w : World), wpAnyS P md ops Q S n L f listed a w → wpAny P md ops Q (f + g) listed a w
  | 0, listed, a, w, h => by rw [Nat.zero_add]; exact hL _ _ _ h
  | f + 1, listed, a, w, h => by
    rw [show f + 1 + g = (f + g) + 1 by omega]
    exact ⟨fun h0 => absurd h0 h.1, fun i hi => wpOp_mono (fun a' w' h' => wpAny_of_headS hL f _ a' w' h'.2) (h.2 i hi).2⟩
theorem wpAnyS_first {n i : Nat} {oi : Oper} {v : Value} {L : Array Bool → Act → World → Prop} (hi : ops[i]? = some oi) (hsel : ∀ (j : Nat) (o : Oper) cs b, ops[j]? = some o → o.op ≠ .select cs b)
    (hQ : ∀ c a w, Q (.panic c) (a.put oi.dst v) w → Q (.panic c) a w)
    (hs : Region.sinkB md ops n = true) (hc : Region.chainB md ops n = true) (hn : n < ops.size) (hin : i < n)
    (hdone : ∀ listed a w, L listed a w → ∀ j ∈ Region.ready md ops listed, n ≤ j) :
    ∀ (f : Nat) (listed : Array Bool) (a : Act) (w : World), HeadInv md ops n listed →
      (∀ j oj, ops[j]? = some oj → j ≠ i → listed.getD j true = false → (∀ e ∈ oj.after, Region.binds md e = true → e.on ≠ i) → oi.apart ops oj = true) →
      i ∈ Region.ready md ops listed → YieldsIf P ops S oi v a → S w →
      wpAnyS P md ops Q S n L f (listed.setIfInBounds i true) (a.put oi.dst v) w → wpAnyS P md ops Q S n L (f + 1) listed a w := by
  intro f
  induction f with
  | zero =>
    intro listed a w inv _ hr hy hS H
    have hun := (mem_ready.1 hr).1
    refine ⟨fun h => (by rw [h] at hr; cases hr), fun j hj => ?_⟩
    have hjn : j < n := by
      rcases Nat.lt_or_ge j n with h | h
      · exact h
      · exact absurd hj (tail_waits hs hc hn inv _ i rfl hin hun j h)
    refine ⟨hjn, ?_⟩
    by_cases hji : j = i
    · subst hji; exact hy.wpOp hi hS ⟨hS, H⟩
    · have := hdone _ _ _ H j (ready_mono hj hji)
      omega
  | succ f ih =>
    intro listed a w inv hfree hr hy hS H
    have hun := (mem_ready.1 hr).1
    refine ⟨fun h => (by rw [h] at hr; cases hr), fun j hj => ?_⟩
    have hjn : j < n := by
      rcases Nat.lt_or_ge j n with h | h
      · exact h
      · exact absurd hj (tail_waits hs hc hn inv _ i rfl hin hun j h)
    refine ⟨hjn, ?_⟩
    by_cases hji : j = i
    · subst hji; exact hy.wpOp hi hS ⟨hS, H⟩
    · have h1 := (H.2 j (ready_mono hj hji)).2
      obtain ⟨hjun, oj, hoj, hall⟩ := mem_ready.1 hj
      have hnot : ∀ e ∈ oj.after, Region.binds md e = true → e.on ≠ i := fun e he hb heq => by
        have h1 := hall e he hb
        rw [heq, getD_both hun] at h1
        cases h1
      have h2 := wpOp_putIf hoj (hfree j oj hoj hji hjun hnot) (fun cs b => hsel i oi cs b hi) (fun cs b => hsel j oj cs b hoj) hQ hy h1
      have hfree' : ∀ k ok, ops[k]? = some ok → k ≠ i → (listed.setIfInBounds j true).getD k true = false →
          (∀ e ∈ ok.after, Region.binds md e = true → e.on ≠ i) → oi.apart ops ok = true := fun k ok hk hki hun hno => by
        refine hfree k ok hk hki ?_ hno
        by_cases hjk : j = k
        · subst hjk; exact hjun
        · rw [getD_set_ne true hjk] at hun; exact hun
      refine wpOp_mono (fun a' w' h3 => ⟨h3.2.1, ih (listed.setIfInBounds j true) a' w' (inv.set hj hjn) hfree' (ready_mono hr (Ne.symm hji)) h3.1 h3.2.1 ?_⟩) h2
      rw [Array.setIfInBounds_comm _ _ hji]
      exact h3.2.2

/-- The same, where what is listed is closed. -/
def WS (P : Program) (l : List Oper) (Q : Exit → Act → World → Prop) (S : World → Prop) (n f : Nat) (listed : Array Bool) (a : Act) (w : World) : Prop :=
  Region.lexTailB .any l.toArray n = true → HeadInv .any l.toArray n listed → wpAnyS P .any l.toArray Q S n (fun listed a w => Region.seqB .any l.toArray (l.toArray.size - n) n listed = true ∧ wpList P l.toArray Q (l.drop n) a w) f listed a w
theorem WS_take {l : List Oper} {n i : Nat} {oi : Oper} {v : Value} {f : Nat} {listed : Array Bool} {a : Act} {w : World} (hi : l.toArray[i]? = some oi) (hin : i < n)
    (hf : Region.free .any l.toArray listed i = true) (hr : (Region.ready .any l.toArray listed).contains i = true)
    (hQ : ∀ c a w, Q (.panic c) (a.put oi.dst v) w → Q (.panic c) a w) (hy : YieldsIf P l.toArray S oi v a) (hS : S w)
    (h : WS P l Q S n f (listed.setIfInBounds i true) (a.put oi.dst v) w) : WS P l Q S n (f + 1) listed a w := by
  intro hB0
  have hB := hB0
  simp only [Region.lexTailB, Bool.and_eq_true, decide_eq_true_eq] at hB
  obtain ⟨⟨⟨⟨hsel, hn⟩, hs⟩, hc⟩, _⟩ := hB
  have hr' : i ∈ Region.ready .any l.toArray listed := by simpa using hr
  exact fun inv => wpAnyS_first hi (Region.noSelect_spec hsel) hQ hs hc hn hin (fun listed' a' w' hL => seqB_ready hL.1) f listed a w inv (Region.free_spec hi hf) hr' hy hS (h hB0 (inv.set hr' hin))
/-- One alone may come up. -/
theorem WS_one {l : List Oper} {n i : Nat} {oi : Oper} {f : Nat} {listed : Array Bool} {a : Act} {w : World} (hi : l.toArray[i]? = some oi) (hin : i < n)
    (hr : Region.ready .any l.toArray listed = [i])
    (h : ∀ K : Act → World → Prop, (∀ a' w', S w' → WS P l Q S n f (listed.setIfInBounds i true) a' w' → K a' w') → if Region.wanted oi (yielded l.toArray a.tmps) = true then Oper.wp P oi a w K Q else K (a.put oi.dst undef) w) : WS P l Q S n (f + 1) listed a w := by
  intro hB0 inv
  have hmem : i ∈ Region.ready .any l.toArray listed := by rw [hr]; simp
  refine ⟨by rw [hr]; simp, fun j hj => ?_⟩
  have hji : j = i := by rw [hr] at hj; simpa using hj
  subst hji
  refine ⟨hin, ?_⟩
  have h2 := h (fun a' w' => S w' ∧ wpAnyS P .any l.toArray Q S n (fun listed a w => Region.seqB .any l.toArray (l.toArray.size - n) n listed = true ∧ wpList P l.toArray Q (l.drop n) a w) f (listed.setIfInBounds j true) a' w') (fun a' w' hS hW => ⟨hS, hW hB0 (inv.set hmem hin)⟩)
  unfold wpOp
  simp only [hi]
  split
  · next hw => rw [if_pos hw] at h2; exact .inl h2
  · next hw => rw [if_neg hw] at h2; exact h2
theorem WS_done {l : List Oper} {n : Nat} {listed : Array Bool} {a : Act} {w : World} (hq : Region.seqB .any l.toArray (l.toArray.size - n) n listed = true) (h : wpList P l.toArray Q (l.drop n) a w) : WS P l Q S n 0 listed a w := fun _ _ => ⟨hq, h⟩
theorem wp_region_headS {id : Nat} {a : Act} {w : World} {l : List Oper} (n : Nat) (S : World → Prop) (hm : P.follows .mixedOrders = true) (hB : Region.lexTailB .any l.toArray n = true)
    (h : WS P l Q S n n (Array.replicate l.toArray.size false) a w.drew) : (Code.region id l.toArray true).wp P Q a w := by
  have hB' := hB
  simp only [Region.lexTailB, Bool.and_eq_true, decide_eq_true_eq] at hB'
  obtain ⟨⟨⟨⟨hsel, hn⟩, hs⟩, hc⟩, hlex⟩ := hB'
  have inv0 : HeadInv .any l.toArray n (Array.replicate l.toArray.size false) :=
    ⟨by simp, fun j oj _ hl => (by rw [getD_replicate_false] at hl; cases hl), fun t _ ht => getD_in (by simpa using ht) (getD_replicate_false _ _)⟩
  have hdl : (l.drop n).length = l.toArray.size - n := by simp
  refine wp_region_any hm ?_
  have := wpAny_of_headS (g := l.toArray.size - n) (fun listed a w hL => by
    have := wpAny_of_seq (md := .any) (Q' := Q) (l.drop n) n listed a w (fun j => by simp [List.getElem?_drop]) (by rw [hdl]; exact hL.1) hL.2
    rwa [hdl] at this) _ _ _ _ (h hB inv0)
  rw [show n + (l.toArray.size - n) = l.toArray.size by omega] at this
  exact this
end
end Go.Proofs.YtkoegbjnhoecoaaGreatDoor
namespace Go.Proofs.YtkoegbjnhoecoaaGreatDoor
open Go.RowKit Tx

/-- Q, but at a panic: it is the store's own, the frame's deferred call and its result's cell are as they were, and the world is in F. -/
def PanQ (D : List Deferred) (p : Value) (F : World → Prop) (Q : Exit → Act → World → Prop) : Exit → Act → World → Prop
  | .panic c, a, w => c = deadV ∧ a.defers = D ∧ a.tmps[4]? = some p ∧ F w
  | e, a, w => Q e a w
theorem PanQ.imp {D : List Deferred} {p : Value} {F : World → Prop} {Q : Exit → Act → World → Prop} (h : ∀ a w, a.defers = D → a.tmps[4]? = some p → F w → Q (.panic deadV) a w) : ∀ e a w, PanQ D p F Q e a w → Q e a w := fun e a w hq => by
  cases e with
  | panic c =>
    obtain ⟨rfl, h1, h2, h3⟩ := (hq : c = deadV ∧ a.defers = D ∧ a.tmps[4]? = some p ∧ F w)
    exact h a w h1 h2 h3
  | _ => exact hq
theorem PanQ.normal {D : List Deferred} {p : Value} {F : World → Prop} {Q : Exit → Act → World → Prop} {a : Act} {w : World} (h : Q .normal a w) : PanQ D p F Q .normal a w := h
theorem PanQ.put {D : List Deferred} {p : Value} {F : World → Prop} {Q : Exit → Act → World → Prop} {d : Option Nat} {v : Value} (hd : d ≠ some 4) : ∀ c a w, PanQ D p F Q (.panic c) (a.put d v) w → PanQ D p F Q (.panic c) a w := fun c a w h => by
  obtain ⟨h1, h2, h3, h4⟩ := (h : c = deadV ∧ (a.put d v).defers = D ∧ (a.put d v).tmps[4]? = some p ∧ F w)
  refine (⟨h1, ?_, ?_, h4⟩ : c = deadV ∧ a.defers = D ∧ a.tmps[4]? = some p ∧ F w)
  · cases d <;> exact h2
  · cases d with
    | none => exact h3
    | some k =>
      have : k ≠ 4 := fun e => hd (by rw [e])
      simp only [Act.put] at h3
      rwa [Array.getElem?_setIfInBounds_ne this] at h3
/-- A commit stopped in the world w', begun at w: what a crash may leave. -/
def DeadF (B : Nat) (w0 w : World) (bd n : Nat) (d : Dk.St) (h0 h1 : Sq.Head) (T U : Bs) (RR : List Nat) (w' : World) : Prop :=
  ∃ d', Dk.InR B w0 w' bd d' RR ∧ Dk.Same RR w w' ∧ Base d d' ∧ Sq.Mid n d'.held d'.pend h0 h1 T U ∧ d'.cnt + d'.pend.length ≤ d.cnt + Sq.cnt U + 1 ∧ d.lim ≠ none ∧ Sq.Good n d'.held h0 h1 T ∧ (Dk.dead d.lim = true → d'.pend = [])
theorem DeadF.of_lay {B : Nat} {w0 w w' : World} {bd n : Nat} {d d' : Dk.St} {h0 h1 : Sq.Head} {T U : Bs} {RR : List Nat} {b : Nat} (hI : Dk.InR B w0 w' bd d' RR) (hS : Dk.Same RR w w') (hB : LaidB n b U d d') (hb : b = 1 - Sq.now h0 h1) (hG : Sq.Good n d.held h0 h1 T) (hU : U.length ≤ 64 * Sq.half n) : DeadF B w0 w bd n d h0 h1 T U RR w' := by
  obtain ⟨k, hk, hp⟩ := hB.pend
  refine ⟨d', hI, hS, hB.base, ?_, ?_, hB.lim, by rw [hB.held]; exact hG, hB.first⟩
  · rw [hB.held, hp, hb]
    exact hG.mid_lay (Nat.le_trans hk (Sq.cnt_le hU))
  · rw [hB.cnt, hp, Sq.lay_len]
    omega
theorem DeadF.post {B : Nat} {w0 w w4 w' : World} {bd n : Nat} {d : Dk.St} {h0 h1 : Sq.Head} {T U : Bs} {R : List Nat} {hb rc : Nat} (h : DeadF B w0 w4 bd n d h0 h1 T U (hb :: rc :: R) w') (hR : ∀ k ∈ R, k < w.heap.size) (hrc : w.heap.size ≤ rc) (h4 : Below w.heap.size w w4) (o : Obj) (v : Value) :
    (∀ k ∈ R, ((w'.alloc o).setCell ⟨rc, 0, none⟩ v).heap[k]? = w.heap[k]?) ∧ ∃ d', Dk.InR B w0 ((w'.alloc o).setCell ⟨rc, 0, none⟩ v) bd d' R ∧ Base d d' ∧ Sq.Mid n d'.held d'.pend h0 h1 T U ∧ d'.cnt + d'.pend.length ≤ d.cnt + Sq.cnt U + 1 ∧ d.lim ≠ none ∧ Sq.Good n d'.held h0 h1 T ∧ (Dk.dead d.lim = true → d'.pend = []) := by
  obtain ⟨d', hI, hS, k1, k2, k3, k4⟩ := h
  refine ⟨fun k hk => ?_, d', hI.turn (((Moved.refl _ _).alloc o).setCell rc 0 v (.inl (by simp))) (fun k hk => ⟨.inl (by simp [hk]), ?_⟩), k1, k2, k3, k4⟩
  · have hkl := hR k hk
    have hk5 := (hI.2.2.1 k (by simp [hk])).1
    rw [set_other0 o v hk5 (by omega), hS k (by simp [hk]), h4.block k hkl]
  · have hk5 := (hI.2.2.1 k (by simp [hk])).1
    rw [World.size_setCell]
    have : (w'.alloc o).heap.size = w'.heap.size + 1 := by simp
    omega
theorem rowC_to {α : Type} {n : Nat} {f : α → List Value} {w w' : World} {B B' : Nat} {v : Value} {xs : List α} (h : RowC n f w B v xs)
    (hk : ∀ b, v.ownBlock = some b → b < B → b < B' ∧ w'.heap[b]? = w.heap[b]?) : RowC n f w' B' v xs := by
  obtain ⟨cap, h1, h2, h3⟩ := h
  refine ⟨cap, h1, h2, ?_⟩
  rcases h3 with h3 | ⟨b, off, hv, hlt, hc⟩
  · exact .inl h3
  · refine .inr ⟨b, off, hv, (hk b (by rw [hv]; rfl) hlt).1, fun j hj i u hu => ?_⟩
    exact (World.cell?_of_block (a := ⟨b, off + j * n + i, none⟩) (hk b (by rw [hv]; rfl) hlt).2).trans (hc j hj i u hu)
theorem RowK.to {B : Nat} {R R' : List Nat} {sb sb' : Nat} {w0 w w' : World} {v : Value} {l : List Wr.F} (h : RowK B R sb w v l) (h0 : Below B w0 w) (h1 : Below B w0 w') (hB : B ≤ w'.heap.size) (hR : ∀ k ∈ R, k ≠ sb → (k ∈ R' ∧ k ≠ sb') ∧ k < w'.heap.size ∧ w'.heap[k]? = w.heap[k]?) : RowK B R' sb' w' v l :=
  ⟨rowC_to h.1 (fun b hb _ => by
    rcases h.2.2 b hb with hk | ⟨hk, hne⟩
    · exact ⟨by omega, (h1.block b hk).trans (h0.block b hk).symm⟩
    · exact (hR b hk hne).2), h.2.1, fun k hk => (h.2.2 k hk).imp id fun ⟨a, b⟩ => (hR k a b).1⟩
theorem fin_ok {B : Nat} {w0 W w10 : World} {bd sb hb rc : Nat} {d : Dk.St} {g0 g1 : Sq.Head} {L : List Wr.F} {R : List Nat} {v fv0 : Value} (hI : Dk.InR B w0 W bd d (hb :: rc :: R)) (b10 : Below W.heap.size W w10) (ho : OwnC 29 2 ff W.heap.size w10 v L)
    (hS : w10.heap[sb]? = some (SBlk bd g0 g1 fv0)) (hsb : sb ∈ R) (hrc : rc ∉ R) (x : Value) (o : Obj) :
    StIn B w0 (((w10.setCell ⟨sb, 5, none⟩ v).setCell ⟨rc, 0, none⟩ x).alloc o) bd d sb g0 g1 L (v.ownBlock.toList ++ R) ∧ (∀ k ∈ R, k ≠ sb → (((w10.setCell ⟨sb, 5, none⟩ v).setCell ⟨rc, 0, none⟩ x).alloc o).heap[k]? = W.heap[k]?) ∧ ∃ fv, (((w10.setCell ⟨sb, 5, none⟩ v).setCell ⟨rc, 0, none⟩ x).alloc o).heap[sb]? = some (SBlk bd g0 g1 fv) ∧ ∀ k, fv.ownBlock = some k → k ∉ R := by
  have hne : sb ≠ rc := fun e => hrc (e ▸ hsb)
  have hsz : (((w10.setCell ⟨sb, 5, none⟩ v).setCell ⟨rc, 0, none⟩ x).alloc o).heap.size = w10.heap.size + 1 := by simp [World.setCell]
  have hoth : ∀ k, k ≠ sb → k ≠ rc → k < w10.heap.size → (((w10.setCell ⟨sb, 5, none⟩ v).setCell ⟨rc, 0, none⟩ x).alloc o).heap[k]? = w10.heap[k]? := fun k h1 h2 h3 => by
    rw [Below.heap_alloc _ _ _ (by simp only [World.size_setCell]; exact h3), Below.heap_setCell _ _ _ _ (fun e => h2 (by simpa using e)), Below.heap_setCell _ _ _ _ (fun e => h1 (by simpa using e))]
  have hsbl : sb < w10.heap.size := lt_of_block hS
  have hRl : ∀ k ∈ R, k < W.heap.size := fun k hk => (hI.2.2.1 k (by simp [hk])).1
  have hs10 := b10.size
  have hsbF : (((w10.setCell ⟨sb, 5, none⟩ v).setCell ⟨rc, 0, none⟩ x).alloc o).heap[sb]? = some (SBlk bd g0 g1 v) := by
    rw [Below.heap_alloc _ _ _ (by simp only [World.size_setCell]; exact hsbl), Below.heap_setCell _ _ _ _ (fun e => hne (by simpa using e))]
    simpa [SBlk] using wr_cells_set (j := 5) hS v
  refine ⟨⟨hI.turn ((((Moved.of_below b10 _).setCell sb 5 v (.inl (by simp [hsb]))).setCell rc 0 x (.inl (by simp))).alloc o) (fun k hk => ?_), by simp [hsb], v, hsbF, ?_, ho.nilOr, fun k hk => ?_⟩, fun k hk hks => ?_, v, hsbF, fun k hk hkR => ?_⟩
  · rw [hsz]
    rcases List.mem_append.1 hk with hk | hk
    · have := ho.lt k (by simpa using hk)
      exact ⟨.inr this.1, by omega⟩
    · have := hRl k hk
      exact ⟨.inl (by simp [hk]), by omega⟩
  · refine rowC_blk (ho.rowC ff_length) (by rw [hsz]; omega) (fun b hb hlt => hoth b ?_ ?_ hlt)
    · rintro rfl
      have := (ho.lt _ hb).1
      have := hRl _ hsb
      omega
    · rintro rfl
      have := (ho.lt _ hb).1
      have := (hI.2.2.1 _ (show b ∈ _ by simp)).1
      omega
  · have h1 := (ho.lt k hk).1
    refine ⟨by simp [hk], fun e => ?_⟩
    have := hRl sb hsb
    omega
  · have := hRl k hk
    rw [hoth k hks (fun e => hrc (e ▸ hk)) (by omega), b10.block k this]
  · have := (ho.lt k hk).1
    have := hRl k hkR
    omega
end Go.Proofs.YtkoegbjnhoecoaaGreatDoor
namespace Go.Proofs.YtkoegbjnhoecoaaGreatDoor
open Go.RowKit Tx

theorem files_len (l : List Wr.F) (h : Wr.right l = true) : (Wr.files l).length ≤ 160000 := by
  have hr := Wr.right_of h
  have key : ∀ m : List Wr.F, (∀ f ∈ m, Wr.fileOk f = true) → (Wr.files m).length ≤ 5000 * m.length := by
    intro m
    induction m with
    | nil => intro _; simp [Wr.files]
    | cons f m ih =>
      intro hm
      have h1 := Wr.fileOk_len (hm f (by simp))
      have h2 := ih (fun g hg => hm g (by simp [hg]))
      have d1 := dig_len f.1.length (by omega)
      have d2 := dig_len f.2.length (by omega)
      have e : (Wr.files (f :: m)).length = (Wr.put f.1).length + (Wr.put f.2).length + (Wr.files m).length := by simp [Wr.files]; omega
      rw [e]
      simp only [Wr.put, List.length_append, List.length_cons, List.length_nil]
      omega
  have := key l hr.ok
  have := hr.most
  omega
theorem FOk_right {l : List Wr.F} (h : Wr.right l = true) : l.length ≤ 32 := (Wr.right_of h).most
theorem roomZ_eq (n : Nat) (h : 4 ≤ n ∧ n ≤ 4096) : roomZ n = ((64 * Sq.half n : Nat) : Int) := by
  unfold roomZ
  rw [if_neg (by omega)]
  congr 3
  omega
theorem inR_more {B : Nat} {w0 w w' : World} {bd : Nat} {d : Dk.St} {R : List Nat} (h : Dk.InR B w0 w bd d R) (hb : Below w.heap.size w w') {k : Nat} (h1 : w.heap.size ≤ k) (h2 : k < w'.heap.size) : Dk.InR B w0 w' bd d (k :: R) :=
  h.turn (Moved.of_below hb _) fun j hj => by
    rcases List.mem_cons.1 hj with rfl | hj
    · exact ⟨.inr h1, h2⟩
    · exact ⟨.inl hj, Nat.lt_of_lt_of_le (h.2.2.1 j hj).1 hb.size⟩
def CommitPost (B : Nat) (w0 w : World) (bd n : Nat) (d : Dk.St) (sb : Nat) (h0 h1 : Sq.Head) (T : Bs) (L : List Wr.F) (R : List Nat) (e : Ending) (w' : World) : Prop :=
  (∀ k ∈ R, k ≠ sb → w'.heap[k]? = w.heap[k]?) ∧ ((e = .returned (.int .i64 0) ∧ ∃ d' R', StIn B w0 w' bd d' sb (Sq.n0 h0 h1 (Wr.files L)) (Sq.n1 h0 h1 (Wr.files L)) L R' ∧ (∀ k ∈ R, k ∈ R') ∧ Base d d' ∧ d'.pend = [] ∧ Sq.Good n d'.held (Sq.n0 h0 h1 (Wr.files L)) (Sq.n1 h0 h1 (Wr.files L)) (Wr.files L) ∧ d'.cnt ≤ d.cnt + Sq.cnt (Wr.files L) + 1 ∧ Dk.dead d.lim = false ∧ ∃ fv, w'.heap[sb]? = some (SBlk bd (Sq.n0 h0 h1 (Wr.files L)) (Sq.n1 h0 h1 (Wr.files L)) fv) ∧ ∀ k, fv.ownBlock = some k → k ∉ R) ∨
  (e = .returned (.int .i64 8) ∧ ∃ d', Dk.InR B w0 w' bd d' R ∧ Base d d' ∧ Sq.Mid n d'.held d'.pend h0 h1 T (Wr.files L) ∧ d'.cnt + d'.pend.length ≤ d.cnt + Sq.cnt (Wr.files L) + 1 ∧ d.lim ≠ none ∧ Sq.Good n d'.held h0 h1 T ∧ (Dk.dead d.lim = true → d'.pend = [])))
set_option maxRecDepth 100000 in
set_option maxHeartbeats 8000000 in
theorem commit_any {B : Nat} {w0 w : World} {bd : Nat} {d : Dk.St} {sb : Nat} {h0 h1 : Sq.Head} {l : List Wr.F} {R : List Nat} (n : Nat) (T : Bs) (lv : Value) (L : List Wr.F) (hS : StIn B w0 w bd d sb h0 h1 l R) (hL : RowK B R sb w lv L) (hn : d.n = (n : Int)) (h4 : 4 ≤ n ∧ n ≤ 4096)
    (hp : d.pend = []) (hc : d.cnt < 800000) (hG : Sq.Good n d.held h0 h1 T) (c0 : h0.1 ≤ 900000000 ∧ h0.2 ≤ 900000000) (c1 : h1.1 ≤ 900000000 ∧ h1.2 ≤ 900000000) (hr : Wr.right L = true) (hU : (Wr.files L).length ≤ 64 * Sq.half n) (hok : ∀ f ∈ L, FOk f) (hg : ∀ wx, Below B w0 wx → Gl wx) :
    Calls Tryz.prog 12 #[.pointer (some ⟨sb, 0, none⟩), lv] w (CommitPost B w0 w bd n d sb h0 h1 T L R) := by
  obtain ⟨hD, hmem, fv, k1, k2, k3, k4⟩ := hS
  obtain ⟨hrow, hnil, hblk⟩ := hL
  obtain ⟨rc, hrc⟩ : ∃ rc, rc = w.heap.size := ⟨_, rfl⟩
  obtain ⟨W, hW⟩ : ∃ W, W = w.alloc (.cells #[.int .i64 0] 31) := ⟨_, rfl⟩
  have hbW : Below w.heap.size w W := by rw [hW]; exact (Below.refl _ _).alloc (Nat.le_refl _) _
  have hrW : W.heap[rc]? = some (.cells #[.int .i64 0] 31 (0, 0)) := by rw [hW, hrc]; exact heap_alloc_new _ _
  have HDW := Lib.hid (show Dk.InR B w0 W bd d (rc :: R) by rw [hW, hrc]; exact hD.add _)
  have HSW := Lib.hid ((hbW.block sb (lt_of_block k1)).trans k1)
  have HROW := Lib.hid hrow
  have HRL := Lib.hid (fun k (hk : k ∈ R) => (hD.2.2.1 k hk).1)
  have HBW0 := Lib.hid hD.2.1
  have HWS := Lib.hid hD.1
  have hlen := files_len L hr
  have hl32 := FOk_right hr
  have HRT := Lib.hid (fRight_any lv L W (hrow.step hbW) hok)
  rw [hr] at HRT
  have HFI := Lib.hid (fun wx (hb : Below w.heap.size w wx) => wFiles_any lv L wx (hrow.step hb) (by omega) (hg wx (hD.2.1.trans (hb.mono hD.1))))
  have HBW := Lib.hid hbW
  have HRC := Lib.hid hrc
  have hmf : ∀ (fn : Fn) (first cap : Array Value) (w : World), (Instr.makeFunc fn first cap).run Tryz.prog w = .ok (.func fn first cap) w := fun _ _ _ _ => rfl
  have HRZ := Lib.hid (roomZ_eq n h4)
  obtain ⟨U, hUe⟩ : ∃ U, U = Wr.files L := ⟨_, rfl⟩
  unfold CommitPost
  rw [← hUe] at hU HFI hlen ⊢
  obtain ⟨lA, lc, rfl, _⟩ := hrow.shape
  have HUE := Lib.hid hUe
  clear hbW hD k1 hrow hok hr hUe
  go_enter_defers Tryz.func12, Tryz.ntmps12
  go_wp2_with fail
  rw [← hW, ← hrc]
  clear hW hrc
  refine HRT.out.mono ?_
  rintro e w1 ⟨rfl, b1⟩
  have HB1 := Lib.hid (below_via HBW.out b1)
  have HD1 := Lib.hid (HDW.out.below b1).1
  have hr1 := (b1.block rc (lt_of_block hrW)).trans hrW
  have HS1 := Lib.hid ((b1.block sb (lt_of_block HSW.out)).trans HSW.out)
  clear b1 hrW
  go_wp2_with fail
  refine (HFI.out w1 HB1.out).mono ?_
  rintro e w2 ⟨rfl, b2⟩
  have HB2 := Lib.hid (below_via HB1.out b2)
  have HD2 := Lib.hid (HD1.out.below b2).1
  have hr2 := (b2.block rc (lt_of_block hr1)).trans hr1
  have hS2 := (b2.block sb (lt_of_block HS1.out)).trans HS1.out
  obtain ⟨s0, s1, s2, s3, s4, s5, sf⟩ := sblk_cells hS2
  have HLEN := Lib.hid (hn ▸ len_in HD2.out.to_in)
  have hroom := room_any (n : Int) w2
  rw [HRZ.out] at hroom
  have hUi : ¬ (((64 * Sq.half n : Nat) : Int) < (U.length : Int)) := by omega
  have hzU := bs_size U
  clear b2 hr1
  go_wp2_with fail
  refine HLEN.out.mono ?_
  rintro e w3 ⟨rfl, rfl⟩
  go_wp2_with fail
  refine hroom.mono ?_
  rintro e w3 ⟨rfl, rfl⟩
  go_wp2_with fail
  have HNX : Hid (Sq.next h0 h1 U = (max h0.1 h1.1 + 1, U.length)) := Lib.hid rfl
  obtain ⟨M, hM⟩ : ∃ M, M = max h0.1 h1.1 := ⟨_, rfl⟩
  have hMi : max (h0.1 : Int) (h1.1 : Int) = (M : Int) := by omega
  have hMl : M ≤ 900000000 := by omega
  obtain ⟨N, hN⟩ : ∃ N, N = M + 1 := ⟨_, rfl⟩
  have hNi : IntKind.i64.wrap ((M : Int) + 1) = (N : Int) := by rw [hN, IntWalk.i64_in _ (by omega)]; simp
  have HN1 : Hid (Sq.next h0 h1 U = (N, U.length)) := Lib.hid (by rw [HNX.out, hN, hM])
  have hNl : N ≤ 900000001 := by omega
  have hnow := now_any sb bd h0 h1 fv w2 hS2
  have ha := Sq.now_le h0 h1
  have HGO := Lib.hid hG
  obtain ⟨a, hae⟩ : ∃ a, a = Sq.now h0 h1 := ⟨_, rfl⟩
  rw [← hae] at hnow ha
  obtain ⟨b, hb⟩ : ∃ b, b = 1 - a := ⟨_, rfl⟩
  have hbi : IntKind.i64.wrap (1 - (a : Int)) = (b : Int) := by rw [IntWalk.i64_in _ (by omega)]; omega
  have hb1 : b ≤ 1 := by omega
  have HBE : Hid (b = 1 - Sq.now h0 h1) := Lib.hid (by rw [hb, hae])
  clear hM hN hb hae hG HNX HRZ hUi
  refine hnow.mono ?_
  rintro e w3 ⟨rfl, nq, hw3⟩
  have b3 : Below w2.heap.size w2 w3 := by rw [hw3]; exact below_of_drewN (a := w2) (B := w2.heap.size) nq
  have HB3 := Lib.hid (below_via HB2.out b3)
  have HD3 := Lib.hid (HD2.out.below b3).1
  have hr3 := (b3.block rc (lt_of_block hr2)).trans hr2
  have hS3 := (b3.block sb (lt_of_block hS2)).trans hS2
  clear hw3 b3 hr2 hS2 s0 s1 s2 s3 s4 s5 sf hnow
  obtain ⟨s0, s1, s2, s3, s4, s5, sf⟩ := sblk_cells hS3
  clear s0 s2 s4 s5
  go_upto_region 8 with fail
  go_cut [7] from 26 to 43 (fun p wx => ∃ hb, p = .pointer (some ⟨hb, 0, none⟩) ∧ wx.heap[hb]? = some (.cells #[.int .i64 N, .int .i64 U.length] 57 (0, 0)) ∧ Below w3.heap.size w3 wx ∧ w3.heap.size ≤ hb)
  case first =>
    have hal := heap_alloc_new w3 (.cells #[.int .i64 N, .int .i64 U.length] 57)
    have hba := fun o => (Below.refl w3.heap.size w3).alloc (Nat.le_refl _) o
    have HAL := Lib.hid hal
    have HBA := Lib.hid hba
    clear hal hba
    go_region_held3 (fun wx => wx.cell? ⟨sb, 1, none⟩ = some (.int .i64 h0.1) ∧ wx.cell? ⟨sb, 3, none⟩ = some (.int .i64 h1.1)) (go_keep) (fail)
    all_goals (go_wp2_with fail)
    all_goals go_meet
    all_goals exact ⟨w3.heap.size, rfl, HAL.out, (HBA.out _).drew, Nat.le_refl _⟩
  case rest =>
    obtain ⟨hb, rfl, hh4, b4, hbn⟩ := hcut
    obtain ⟨w4, hw4⟩ : ∃ w4, w4 = wc := ⟨_, rfl⟩
    subst hw4
    have HB4 := Lib.hid (below_via HB3.out b4)
    have HD4 := Lib.hid (inR_more HD3.out b4 hbn (lt_of_block hh4))
    have hr4 := (b4.block rc (lt_of_block hr3)).trans hr3
    have hS4 := (b4.block sb (lt_of_block hS3)).trans hS3
    clear b4 hr3 hS3 s1 s3 sf
    have HLAY := Lib.hid (lay_any n b sb h0 h1 fv U HD4.out (by simp [hmem]) hS4 hn h4 hb1 hp (by omega) hU)
    go_wp2_with fail
    refine HLAY.out.mono ?_
    rintro e w5 ⟨d5, D5, S5, ⟨rfl, A5⟩ | ⟨rfl, B5⟩⟩
    · have hS5 := (S5 sb (by simp [hmem])).trans hS4
      have hr5 := (S5 rc (by simp)).trans hr4
      have hh5 := (S5 hb (by simp)).trans hh4
      obtain ⟨G5, G5d⟩ := HGO.out.laid hU
      rw [← HBE.out, ← A5.held] at G5 G5d
      have hd5n : d5.n = (n : Int) := A5.base.n.trans hn
      have HI5 := Lib.hid D5
      have HSM5 := Lib.hid S5
      have HG5 := Lib.hid G5
      have HG5d := Lib.hid G5d
      have HA5 := Lib.hid A5
      have hIb5 := D5.1
      have q0 : w5.cell? ⟨hb, 0, none⟩ = some (.int .i64 N) := by rw [Lib.cell_of_heap hh5]; rfl
      have q1 : w5.cell? ⟨hb, 1, none⟩ = some (.int .i64 U.length) := by rw [Lib.cell_of_heap hh5]; rfl
      have q2 := (sblk_cells hS5).1
      have hHB : hb < w5.heap.size := lt_of_block hh5
      have hSB : sb < w5.heap.size := lt_of_block hS5
      have HTX := Lib.hid (text_any N U.length (by omega) (by omega) w5.drew (hg _ D5.2.1.drew))
      have HHW : Hid (Sq.hw h0 h1 U = ((b : Int), bs (Sq.hd (N, U.length)))) := Lib.hid (by unfold Sq.hw; rw [HN1.out, HBE.out])
      have hht := Sq.hd_len (N, U.length) (by simp only; omega) (by simp only; omega)
      generalize Sq.hd (N, U.length) = ht at *
      have hS0 : (fun wz : World => wz.cell? ⟨sb, 0, none⟩ = some (.pointer (some ⟨bd, 0, none⟩)) ∧ wz.cell? ⟨hb, 0, none⟩ = some (.int .i64 N) ∧ wz.cell? ⟨hb, 1, none⟩ = some (.int .i64 U.length)) w5.drew := ⟨q2, q0, q1⟩
      have HDEAD : Hid (∀ wx d', Dk.InR B w0 wx bd d' (hb :: rc :: R) → Dk.Same (hb :: rc :: R) w4 wx → Base d d' → Sq.Mid n d'.held d'.pend h0 h1 T U → d'.cnt + d'.pend.length ≤ d.cnt + Sq.cnt U + 1 → d.lim ≠ none → Sq.Good n d'.held h0 h1 T → DeadF B w0 w4 bd n d h0 h1 T U (hb :: rc :: R) wx) := Lib.hid (fun wx d' x1 x2 x3 x4 x5 x6 x7 => ⟨d', x1, x2, x3, x4, x5, x6, x7, fun e => by rw [HA5.out.alive] at e; cases e⟩)
      have HP := Lib.hid (fun wx (hx : DeadF B w0 w4 bd n d h0 h1 T U (hb :: rc :: R) wx) => hx.post (fun k hk => HRL.out k hk) (by rw [HRC.out]; exact Nat.le_refl _) HB4.out (.cells #[.int .i64 8] 63) (.int .i64 8))
      have HRCX := Lib.hid (fun wx (hx : DeadF B w0 w4 bd n d h0 h1 T U (hb :: rc :: R) wx) => (show wx.heap[rc]? = some (.cells #[.int .i64 0] 31 (0, 0)) by obtain ⟨d', x1, x2, _⟩ := hx; exact (x2 rc (by simp)).trans hr4))
      have HH4 := Lib.hid hh4
      have HR4 := Lib.hid hr4
      clear hS4 hr4 hh4 S5 D5 A5 G5 G5d
      go_upto_region 10 with fail
      refine Code.wp_mono (PanQ.imp (D := catchD rc) (p := .pointer (some ⟨rc, 0, none⟩)) (F := DeadF B w0 w4 bd n d h0 h1 T U (hb :: rc :: R)) (fun a' w' e1 e2 e3 => ?pan)) ?_
      case pan => exact door_panic (rc := rc) e1 e2 (HRCX.out w' e3) ⟨fun k hk _ => (HP.out w' e3).1 k hk, .inr ⟨rfl, (HP.out w' e3).2⟩⟩
      refine wp_region_headS 7 (fun wz : World => wz.cell? ⟨sb, 0, none⟩ = some (.pointer (some ⟨bd, 0, none⟩)) ∧ wz.cell? ⟨hb, 0, none⟩ = some (.int .i64 N) ∧ wz.cell? ⟨hb, 1, none⟩ = some (.int .i64 U.length)) (by kernel_rfl) (by kernel_rfl) ?_
      refine WS_take (i := 0) (v := ?v0) (by simp only [List.getElem?_toArray, List.getElem?_cons_zero]; rfl) (by decide) (by kernel_rfl) (by kernel_rfl) (PanQ.put (by simp)) (Or.inl ⟨by rfl, ?hy0⟩) hS0 ?rest0
      case hy0 =>
        intro wx hx
        obtain ⟨s1, s2, s3⟩ := hx
        go_simp
        try with_reducible rfl
      try simp only [Act.put, List.setIfInBounds_toArray, List.set_cons_zero, List.set_cons_succ]
      refine WS_take (i := 1) (v := ?v1) (by simp only [List.getElem?_toArray, List.getElem?_cons_succ, List.getElem?_cons_zero]; rfl) (by decide) (by kernel_rfl) (by kernel_rfl) (PanQ.put (by simp)) (Or.inl ⟨by rfl, ?hy1⟩) hS0 ?rest1
      case hy1 =>
        intro wx hx
        obtain ⟨s1, s2, s3⟩ := hx
        go_simp
        try with_reducible rfl
      try simp only [Act.put, List.setIfInBounds_toArray, List.set_cons_zero, List.set_cons_succ]
      refine WS_take (i := 2) (v := ?v2) (by simp only [List.getElem?_toArray, List.getElem?_cons_succ, List.getElem?_cons_zero]; rfl) (by decide) (by kernel_rfl) (by kernel_rfl) (PanQ.put (by simp)) (Or.inl ⟨by rfl, ?hy2⟩) hS0 ?rest2
      case hy2 =>
        intro wx hx
        obtain ⟨s1, s2, s3⟩ := hx
        go_simp
        try with_reducible rfl
      try simp only [Act.put, List.setIfInBounds_toArray, List.set_cons_zero, List.set_cons_succ]
      refine WS_take (i := 3) (v := ?v3) (by simp only [List.getElem?_toArray, List.getElem?_cons_succ, List.getElem?_cons_zero]; rfl) (by decide) (by kernel_rfl) (by kernel_rfl) (PanQ.put (by simp)) (Or.inl ⟨by rfl, ?hy3⟩) hS0 ?rest3
      case hy3 =>
        intro wx hx
        obtain ⟨s1, s2, s3⟩ := hx
        go_simp
        try with_reducible rfl
      try simp only [Act.put, List.setIfInBounds_toArray, List.set_cons_zero, List.set_cons_succ]
      refine WS_take (i := 4) (v := ?v4) (by simp only [List.getElem?_toArray, List.getElem?_cons_succ, List.getElem?_cons_zero]; rfl) (by decide) (by kernel_rfl) (by kernel_rfl) (PanQ.put (by simp)) (Or.inl ⟨by rfl, ?hy4⟩) hS0 ?rest4
      case hy4 =>
        intro wx hx
        obtain ⟨s1, s2, s3⟩ := hx
        go_simp
        try with_reducible rfl
      try simp only [Act.put, List.setIfInBounds_toArray, List.set_cons_zero, List.set_cons_succ]
      refine WS_take (i := 5) (v := ?v5) (by simp only [List.getElem?_toArray, List.getElem?_cons_succ, List.getElem?_cons_zero]; rfl) (by decide) (by kernel_rfl) (by kernel_rfl) (PanQ.put (by simp)) (Or.inl ⟨by rfl, ?hy5⟩) hS0 ?rest5
      case hy5 =>
        intro wx hx
        obtain ⟨s1, s2, s3⟩ := hx
        go_simp
        try with_reducible rfl
      try simp only [Act.put, List.setIfInBounds_toArray, List.set_cons_zero, List.set_cons_succ]
      refine WS_one (i := 6) (by simp only [List.getElem?_toArray, List.getElem?_cons_succ, List.getElem?_cons_zero]; rfl) (by decide) (by kernel_rfl) (fun K hK => (if_pos (by kernel_rfl)).mpr ?_)
      go_simp
      refine HTX.out.mono ?_
      rintro e w6 ⟨rfl, b6⟩
      dsimp only
      have b6' : Below w5.heap.size w5 w6 := (Below.refl w5.heap.size w5).drew.trans b6
      have hS0' : (fun wz : World => wz.cell? ⟨sb, 0, none⟩ = some (.pointer (some ⟨bd, 0, none⟩)) ∧ wz.cell? ⟨hb, 0, none⟩ = some (.int .i64 N) ∧ wz.cell? ⟨hb, 1, none⟩ = some (.int .i64 U.length)) w6 := ⟨(b6'.cell (p := ⟨sb, 0, none⟩) hSB).trans q2, (b6'.cell (p := ⟨hb, 0, none⟩) hHB).trans q0, (b6'.cell (p := ⟨hb, 1, none⟩) hHB).trans q1⟩
      refine hK _ _ hS0' ?_
      clear hK K
      try simp only [Act.put, List.setIfInBounds_toArray, List.set_cons_zero, List.set_cons_succ]
      refine WS_done (by kernel_rfl) ?_
      simp only [List.drop_succ_cons, List.drop_zero]
      have HI6 := Lib.hid (HI5.out.below b6').1
      have HSM6 := Lib.hid (Same.trans HSM5.out (HI5.out.below b6').2)
      have hS6 := (b6'.block sb hSB).trans hS5
      have hht2 : (bs ht).size ≤ 64 := by rw [bs_size]; exact hht
      have hbn2 : ((b : Nat) : Int) < d5.n := by rw [hd5n]; omega
      have hp5 : d5.pend = [] := HA5.out.pend
      have hc5 : d5.cnt = d.cnt + Sq.cnt U := HA5.out.cnt
      have hlim : d5.lim ≠ none → d.lim ≠ none := fun x e => x (HA5.out.base.live e)
      have hcu := Sq.cnt_le hU
      have hhl := half_le n h4.2
      clear b6 b6' hS0 hS0' q0 q1 q2 hS5 hr5 hh5
      cases hdd : Dk.dead d5.lim with
      | true =>
        have HW := Lib.hid (write_inR 8 b (bs ht) HI6.out (by rw [hp5]; simp) (by omega) (WalkArith.wf_i64 (by omega)) (by rw [write_no d5 b _ hbn2 hht2 hdd]))
        rw [write_no d5 b _ hbn2 hht2 hdd] at HW
        have HM : Hid (Sq.Mid n d5.held d5.pend h0 h1 T U) := Lib.hid (by rw [hp5]; exact HG5.out.mid_none)
        have hlx := hlim (dead_some hdd)
        clear hdd
        go_wp2_with fail
        refine HW.out.mono ?_
        rintro e w7 ⟨rfl, D7, S7⟩
        go_wp2_with fail
        refine (must_dead w7).mono ?_
        rintro e w8 ⟨rfl, rfl⟩
        exact ⟨rfl, rfl, rfl, HDEAD.out _ d5 D7 (Same.trans HSM6.out S7) HA5.out.base HM.out (by rw [hc5, hp5]; simp) hlx HG5.out⟩
      | false =>
        have HW := Lib.hid (write_inR 0 b (bs ht) HI6.out (by rw [hp5]; simp) (by omega) (WalkArith.wf_i64 (by omega)) (by rw [write_yes d5 b _ hbn2 hht2 hdd]))
        rw [write_yes d5 b _ hbn2 hht2 hdd, hp5, List.nil_append, ← HHW.out] at HW
        have HAL5 := Lib.hid hdd
        clear hdd
        go_wp2_with fail
        refine HW.out.mono ?_
        rintro e w7 ⟨rfl, D7, S7⟩
        have HI7 := Lib.hid D7
        have HSM7 := Lib.hid (Same.trans HSM6.out S7)
        have hS7 := (S7 sb (by simp [hmem])).trans hS6
        clear S7 D7 hS6
        go_wp2_with fail
        refine (must_ok w7).mono ?_
        rintro e w8 ⟨rfl, rfl⟩
        go_wp2_with fail
        refine PanQ.normal ?_
        obtain ⟨g0, _, _, _, _, _, _⟩ := sblk_cells hS7
        obtain ⟨d6, hd6⟩ : ∃ d6, d6 = ({ d5 with lim := Dk.used d5.lim, pend := [Sq.hw h0 h1 U] } : Dk.St) := ⟨_, rfl⟩
        rw [← hd6] at HI7
        have e1 : d6.held = d5.held := by rw [hd6]
        have e2 : d6.pend = [Sq.hw h0 h1 U] := by rw [hd6]
        have e3 : d6.cnt = d5.cnt := by rw [hd6]
        have e4 : Base d d6 := by rw [hd6]; exact ⟨HA5.out.base.n, fun x => used_none (HA5.out.base.live x)⟩
        have E4 := Lib.hid e4
        clear hd6 e4
        cases hdd : Dk.dead d6.lim with
        | true =>
          have HSY := Lib.hid (sync_inR 8 HI7.out (by rw [e2, e3, hc5]; simp; omega) (by rw [sync_no d6 hdd]))
          rw [sync_no d6 hdd] at HSY
          have HG6 : Hid (Sq.Good n d6.held h0 h1 T) := Lib.hid (by rw [e1]; exact HG5.out)
          have HM : Hid (Sq.Mid n d6.held d6.pend h0 h1 T U) := Lib.hid (by rw [e1, e2]; exact HG5.out.mid_head hU (by rw [← HBE.out]; exact HG5d.out))
          have hlx : d.lim ≠ none := fun x => dead_some hdd (E4.out.live x)
          have hcx : d6.cnt + d6.pend.length ≤ d.cnt + Sq.cnt U + 1 := by rw [e2, e3, hc5]; simp
          clear hdd e1 e2 e3
          go_wp2_with fail
          refine HSY.out.mono ?_
          rintro e w8 ⟨rfl, D8, S8⟩
          go_wp2_with fail
          refine (must_dead w8).mono ?_
          rintro e w9 ⟨rfl, rfl⟩
          have hF := HDEAD.out _ d6 D8 (Same.trans HSM7.out S8) E4.out HM.out hcx hlx HG6.out
          refine door_panic (rc := rc) rfl rfl (HRCX.out _ hF) ⟨fun k hk _ => (HP.out _ hF).1 k hk, .inr ⟨rfl, (HP.out _ hF).2⟩⟩
        | false =>
          have HSY := Lib.hid (sync_inR 0 HI7.out (by rw [e2, e3, hc5]; simp; omega) (by rw [sync_yes d6 hdd]))
          rw [sync_yes d6 hdd] at HSY
          obtain ⟨d8, hd8⟩ : ∃ d8, d8 = ({ d6 with lim := Dk.used d6.lim, held := Dk.puts d6.held d6.pend, cnt := d6.cnt + d6.pend.length, pend := [] } : Dk.St) := ⟨_, rfl⟩
          simp only at HSY
          rw [← hd8] at HSY
          have HG8 : Hid (Sq.Good n d8.held (Sq.n0 h0 h1 U) (Sq.n1 h0 h1 U) U) := Lib.hid (by
            rw [hd8]
            show Sq.Good n (Dk.puts d6.held d6.pend) _ _ _
            rw [e1, e2]
            exact HG5.out.head hU (by rw [← HBE.out]; exact HG5d.out))
          have hp8 : d8.pend = [] := by rw [hd8]
          have hc8 : d8.cnt = d.cnt + Sq.cnt U + 1 := by rw [hd8]; simp only; rw [e2, e3, hc5]; simp
          have HB8 : Hid (Base d d8) := Lib.hid (by rw [hd8]; exact ⟨E4.out.n, fun x => used_none (E4.out.live x)⟩)
          clear hdd e1 e2 e3 hd8
          go_wp2_with fail
          refine HSY.out.mono ?_
          rintro e w8 ⟨rfl, D8, S8⟩
          have HI8 := Lib.hid D8
          have HSM8 := Lib.hid (Same.trans HSM7.out S8)
          have hS8 := (S8 sb (by simp [hmem])).trans hS7
          have hh8 := (HSM8.out hb (by simp)).trans HH4.out
          clear D8 S8 hS7 g0
          go_wp2_with fail
          refine (must_ok w8).mono ?_
          rintro e w9 ⟨rfl, rfl⟩
          rcases (by omega : b = 0 ∨ b = 1) with rfl | rfl
          · have hst9 : ((w9.setCell ⟨sb, 1, none⟩ (.int .i64 N)).setCell ⟨sb, 2, none⟩ (.int .i64 U.length)).drew.heap[sb]? = some (SBlk bd (N, U.length) h1 fv) := by show ((w9.setCell ⟨sb, 1, none⟩ (.int .i64 N)).setCell ⟨sb, 2, none⟩ (.int .i64 U.length)).heap[sb]? = _; simpa [SBlk] using wr_cells_set (j := 2) (wr_cells_set (w := w9) (j := 1) hS8 (.int .i64 N)) (.int .i64 U.length)
            obtain ⟨t0, t1, t2, t3, t4, t5, tf⟩ := sblk_cells hS8
            have tf1 : w9.frozen? ⟨sb, 1, none⟩ = false := tf 1
            have tf2 : w9.frozen? ⟨sb, 2, none⟩ = false := tf 2
            have tx1 := t1
            have tx2 := t2
            have tc2 : ∀ v, (w9.setCell ⟨sb, 1, none⟩ v).cell? ⟨sb, 2, none⟩ = some (.int .i64 h0.2) := fun v => by rw [Lib.cell_of_heap (wr_cells_set (w := w9) (j := 1) hS8 v)]; rfl
            have tff2 : ∀ v, (w9.setCell ⟨sb, 1, none⟩ v).frozen? ⟨sb, 2, none⟩ = false := fun v => Lib.frozen_of_heap (wr_cells_set (w := w9) (j := 1) hS8 v) 2
            have q0 : w9.cell? ⟨hb, 0, none⟩ = some (.int .i64 N) := by rw [Lib.cell_of_heap hh8]; rfl
            have q1 : w9.cell? ⟨hb, 1, none⟩ = some (.int .i64 U.length) := by rw [Lib.cell_of_heap hh8]; rfl
            clear t0 t1 t2 t3 t4 t5 tf
            go_wp2_with fail
            refine wp_region_quiet_tail 5 (by kernel_rfl) (by kernel_rfl) ?_
            simp only [List.take_succ_cons, List.take_zero, List.drop_succ_cons, List.drop_zero]
            repeat (go_big_quiet_step (fail))
            refine wpQuiet_nil ?_
            go_upto_region 13 with fail
            obtain ⟨W9, hW9⟩ : ∃ W9, W9 = ((w9.setCell ⟨sb, 1, none⟩ (.int .i64 N)).setCell ⟨sb, 2, none⟩ (.int .i64 U.length)).drew := ⟨_, rfl⟩
            rw [← hW9] at hst9 ⊢
            have HI9 : Hid (Dk.InR B w0 W9 bd d8 (hb :: rc :: R)) := Lib.hid (by
              rw [hW9]
              exact inR_drew (HI8.out.turn (((Moved.refl _ _).setCell sb 1 _ (.inl (by simp [hmem]))).setCell sb 2 _ (.inl (by simp [hmem]))) (fun k hk => ⟨.inl hk, by rw [World.size_setCell, World.size_setCell]; exact (HI8.out.2.2.1 k hk).1⟩)))
            have HO9 : Hid (∀ k, k ≠ sb → W9.heap[k]? = w9.heap[k]?) := Lib.hid (fun k hk => by
              rw [hW9]
              exact (Below.heap_setCell _ _ _ _ (fun e => hk (by simpa using e))).trans (Below.heap_setCell _ _ _ _ (fun e => hk (by simpa using e))))
            have hs9 : W9.heap.size = w9.heap.size := by rw [hW9]; simp [World.setCell]
            have HROW9 := Lib.hid (show RowC 2 ff W9 W9.heap.size (.slice lA L.length lc) L from rowC_to HROW.out (fun k hk hlt => by
              rcases hblk k hk with hB | ⟨hR, hne⟩
              · exact ⟨Nat.lt_of_lt_of_le hB HI9.out.1, (HI9.out.2.1.block k hB).trans (HBW0.out.block k hB).symm⟩
              · exact ⟨(HI9.out.2.2.1 k (by simp [hR])).1, by rw [HO9.out k hne, HSM8.out k (by simp [hR]), HB4.out.block k hlt]⟩))
            have HCL := Lib.hid (clone_any _ L W9 HROW9.out hnil (by omega))
            clear hW9 hS8 hh8 q0 q1 tf1 tf2 tx1 tx2 tc2 tff2
            go_wp2_with fail
            refine HCL.out.mono ?_
            rintro e w10 ⟨v10, rfl, O10, b10⟩
            have hS10 := (b10.block sb (lt_of_block hst9)).trans hst9
            have hrcn : rc ∉ R := fun hx => by have := HRL.out rc hx; have := HRC.out; omega
            have hrc9 : W9.heap[rc]? = some (.cells #[.int .i64 0] 31 (0, 0)) := by rw [HO9.out rc (fun e => hrcn (e ▸ hmem)), HSM8.out rc (by simp), HR4.out]
            have hrc10 := (b10.block rc (lt_of_block hrc9)).trans hrc9
            have hrc11 : ∀ v, (w10.setCell ⟨sb, 5, none⟩ v).heap[rc]? = some (.cells #[.int .i64 0] 31 (0, 0)) := fun v => (show (w10.setCell ⟨sb, 5, none⟩ v).heap[rc]? = w10.heap[rc]? from Below.heap_setCell _ _ _ _ (fun e => hrcn ((show rc = sb from e) ▸ hmem))).trans hrc10
            obtain ⟨_, _, _, _, _, z5, zf⟩ := sblk_cells hS10
            have zf5 := zf 5
            have y0 : ∀ v, (w10.setCell ⟨sb, 5, none⟩ v).cell? ⟨rc, 0, none⟩ = some (.int .i64 0) := fun v => by rw [Lib.cell_of_heap (hrc11 v)]; rfl
            have y1 : ∀ v, (w10.setCell ⟨sb, 5, none⟩ v).frozen? ⟨rc, 0, none⟩ = false := fun v => Lib.frozen_of_heap (hrc11 v) 0
            have HO10 := Lib.hid O10
            have HB10 := Lib.hid b10
            have HS10 := Lib.hid hS10
            have HRC11 := Lib.hid hrc11
            obtain ⟨vA, vn, vc, rfl⟩ : ∃ A n c, v10 = .slice A n c := by obtain ⟨A, c, h, _⟩ := (O10.rowC ff_length).shape; exact ⟨A, _, c, h⟩
            clear zf O10 b10 hS10 hrc10 hrc11 hrc9 hst9
            go_wp2_with fail
            have hfin := fin_ok HI9.out HB10.out HO10.out HS10.out hmem hrcn (.int .i64 0) (.cells #[.int .i64 0] 63)
            have hdoor := wr_cells_set (j := 0) (HRC11.out (.slice vA vn vc)) (.int .i64 0)
            have hn0 : Sq.n0 h0 h1 U = (N, U.length) := by have h9 := HBE.out; unfold Sq.n0; rw [if_pos (by have := Sq.now_two h0 h1; omega), HN1.out]
            have hn1 : Sq.n1 h0 h1 U = h1 := by have h9 := HBE.out; unfold Sq.n1; rw [if_pos (by have := Sq.now_two h0 h1; omega)]
            refine door_ret (x := 0) rfl rfl hdoor ⟨fun k hk hne => ?_, .inl ⟨rfl, d8, (Value.slice vA vn vc).ownBlock.toList ++ R, ?_, fun k hk => List.mem_append_right _ hk, HB8.out, hp8, HG8.out, by rw [hc8]; exact Nat.le_refl _, HA5.out.alive, by rw [hn0, hn1]; exact hfin.2.2⟩⟩
            · rw [hfin.2.1 k hk hne, HO9.out k hne, HSM8.out k (by simp [hk]), HB4.out.block k (HRL.out k hk)]
            · rw [hn0, hn1]
              exact hfin.1
          · have hst9 : ((w9.setCell ⟨sb, 3, none⟩ (.int .i64 N)).setCell ⟨sb, 4, none⟩ (.int .i64 U.length)).drew.heap[sb]? = some (SBlk bd h0 (N, U.length) fv) := by show ((w9.setCell ⟨sb, 3, none⟩ (.int .i64 N)).setCell ⟨sb, 4, none⟩ (.int .i64 U.length)).heap[sb]? = _; simpa [SBlk] using wr_cells_set (j := 4) (wr_cells_set (w := w9) (j := 3) hS8 (.int .i64 N)) (.int .i64 U.length)
            obtain ⟨t0, t1, t2, t3, t4, t5, tf⟩ := sblk_cells hS8
            have tf3 : w9.frozen? ⟨sb, 3, none⟩ = false := tf 3
            have tf4 : w9.frozen? ⟨sb, 4, none⟩ = false := tf 4
            have tx3 := t3
            have tx4 := t4
            have tc4 : ∀ v, (w9.setCell ⟨sb, 3, none⟩ v).cell? ⟨sb, 4, none⟩ = some (.int .i64 h1.2) := fun v => by rw [Lib.cell_of_heap (wr_cells_set (w := w9) (j := 3) hS8 v)]; rfl
            have tff4 : ∀ v, (w9.setCell ⟨sb, 3, none⟩ v).frozen? ⟨sb, 4, none⟩ = false := fun v => Lib.frozen_of_heap (wr_cells_set (w := w9) (j := 3) hS8 v) 4
            have q0 : w9.cell? ⟨hb, 0, none⟩ = some (.int .i64 N) := by rw [Lib.cell_of_heap hh8]; rfl
            have q1 : w9.cell? ⟨hb, 1, none⟩ = some (.int .i64 U.length) := by rw [Lib.cell_of_heap hh8]; rfl
            clear t0 t1 t2 t3 t4 t5 tf
            go_wp2_with fail
            refine wp_region_quiet_tail 5 (by kernel_rfl) (by kernel_rfl) ?_
            simp only [List.take_succ_cons, List.take_zero, List.drop_succ_cons, List.drop_zero]
            repeat (go_big_quiet_step (fail))
            refine wpQuiet_nil ?_
            go_upto_region 13 with fail
            obtain ⟨W9, hW9⟩ : ∃ W9, W9 = ((w9.setCell ⟨sb, 3, none⟩ (.int .i64 N)).setCell ⟨sb, 4, none⟩ (.int .i64 U.length)).drew := ⟨_, rfl⟩
            rw [← hW9] at hst9 ⊢
            have HI9 : Hid (Dk.InR B w0 W9 bd d8 (hb :: rc :: R)) := Lib.hid (by
              rw [hW9]
              exact inR_drew (HI8.out.turn (((Moved.refl _ _).setCell sb 3 _ (.inl (by simp [hmem]))).setCell sb 4 _ (.inl (by simp [hmem]))) (fun k hk => ⟨.inl hk, by rw [World.size_setCell, World.size_setCell]; exact (HI8.out.2.2.1 k hk).1⟩)))
            have HO9 : Hid (∀ k, k ≠ sb → W9.heap[k]? = w9.heap[k]?) := Lib.hid (fun k hk => by
              rw [hW9]
              exact (Below.heap_setCell _ _ _ _ (fun e => hk (by simpa using e))).trans (Below.heap_setCell _ _ _ _ (fun e => hk (by simpa using e))))
            have hs9 : W9.heap.size = w9.heap.size := by rw [hW9]; simp [World.setCell]
            have HROW9 := Lib.hid (show RowC 2 ff W9 W9.heap.size (.slice lA L.length lc) L from rowC_to HROW.out (fun k hk hlt => by
              rcases hblk k hk with hB | ⟨hR, hne⟩
              · exact ⟨Nat.lt_of_lt_of_le hB HI9.out.1, (HI9.out.2.1.block k hB).trans (HBW0.out.block k hB).symm⟩
              · exact ⟨(HI9.out.2.2.1 k (by simp [hR])).1, by rw [HO9.out k hne, HSM8.out k (by simp [hR]), HB4.out.block k hlt]⟩))
            have HCL := Lib.hid (clone_any _ L W9 HROW9.out hnil (by omega))
            clear hW9 hS8 hh8 q0 q1 tf3 tf4 tx3 tx4 tc4 tff4
            go_wp2_with fail
            refine HCL.out.mono ?_
            rintro e w10 ⟨v10, rfl, O10, b10⟩
            have hS10 := (b10.block sb (lt_of_block hst9)).trans hst9
            have hrcn : rc ∉ R := fun hx => by have := HRL.out rc hx; have := HRC.out; omega
            have hrc9 : W9.heap[rc]? = some (.cells #[.int .i64 0] 31 (0, 0)) := by rw [HO9.out rc (fun e => hrcn (e ▸ hmem)), HSM8.out rc (by simp), HR4.out]
            have hrc10 := (b10.block rc (lt_of_block hrc9)).trans hrc9
            have hrc11 : ∀ v, (w10.setCell ⟨sb, 5, none⟩ v).heap[rc]? = some (.cells #[.int .i64 0] 31 (0, 0)) := fun v => (show (w10.setCell ⟨sb, 5, none⟩ v).heap[rc]? = w10.heap[rc]? from Below.heap_setCell _ _ _ _ (fun e => hrcn ((show rc = sb from e) ▸ hmem))).trans hrc10
            obtain ⟨_, _, _, _, _, z5, zf⟩ := sblk_cells hS10
            have zf5 := zf 5
            have y0 : ∀ v, (w10.setCell ⟨sb, 5, none⟩ v).cell? ⟨rc, 0, none⟩ = some (.int .i64 0) := fun v => by rw [Lib.cell_of_heap (hrc11 v)]; rfl
            have y1 : ∀ v, (w10.setCell ⟨sb, 5, none⟩ v).frozen? ⟨rc, 0, none⟩ = false := fun v => Lib.frozen_of_heap (hrc11 v) 0
            have HO10 := Lib.hid O10
            have HB10 := Lib.hid b10
            have HS10 := Lib.hid hS10
            have HRC11 := Lib.hid hrc11
            obtain ⟨vA, vn, vc, rfl⟩ : ∃ A n c, v10 = .slice A n c := by obtain ⟨A, c, h, _⟩ := (O10.rowC ff_length).shape; exact ⟨A, _, c, h⟩
            clear zf O10 b10 hS10 hrc10 hrc11 hrc9 hst9
            go_wp2_with fail
            have hfin := fin_ok HI9.out HB10.out HO10.out HS10.out hmem hrcn (.int .i64 0) (.cells #[.int .i64 0] 63)
            have hdoor := wr_cells_set (j := 0) (HRC11.out (.slice vA vn vc)) (.int .i64 0)
            have hn0 : Sq.n0 h0 h1 U = h0 := by have h9 := HBE.out; unfold Sq.n0; rw [if_neg (by omega)]
            have hn1 : Sq.n1 h0 h1 U = (N, U.length) := by have h9 := HBE.out; unfold Sq.n1; rw [if_neg (by omega), HN1.out]
            refine door_ret (x := 0) rfl rfl hdoor ⟨fun k hk hne => ?_, .inl ⟨rfl, d8, (Value.slice vA vn vc).ownBlock.toList ++ R, ?_, fun k hk => List.mem_append_right _ hk, HB8.out, hp8, HG8.out, by rw [hc8]; exact Nat.le_refl _, HA5.out.alive, by rw [hn0, hn1]; exact hfin.2.2⟩⟩
            · rw [hfin.2.1 k hk hne, HO9.out k hne, HSM8.out k (by simp [hk]), HB4.out.block k (HRL.out k hk)]
            · rw [hn0, hn1]
              exact hfin.1
    · refine door_panic (rc := rc) rfl rfl ((S5 rc (by simp)).trans hr4) ?_
      obtain ⟨p1, p2⟩ := (DeadF.of_lay D5 S5 B5 HBE.out HGO.out hU).post (fun k hk => (HRL.out k hk)) (by rw [HRC.out]; exact Nat.le_refl _) HB4.out (.cells #[.int .i64 8] 63) (.int .i64 8)
      exact ⟨fun k hk _ => p1 k hk, .inr ⟨rfl, p2⟩⟩
end Go.Proofs.YtkoegbjnhoecoaaGreatDoor
namespace Go.Proofs.YtkoegbjnhoecoaaGreatDoor
open Go.RowKit Tx

set_option maxHeartbeats 4000000 in
theorem rRight_any (v : Value) (l : List Wr.F) (w : World) (hr : RowC 2 ff w w.heap.size v l) (ok : ∀ f ∈ l, FOk f) :
    Calls Tryz.prog 34 #[v] w fun e w' => e = .returned (.bool (Wr.right l)) ∧ ∃ n, w' = w.drewN n := by
  obtain ⟨A, cap, rfl, h1, h2, h3⟩ := hr.shape
  have HC := Lib.hid h3
  have OK := Lib.hid ok
  clear h3 ok hr
  go_enter Tryz.func34, Tryz.ntmps34
  go_wp2_with fail
  go_loopw [3] (fun i wr => ∃ k m : Nat, k ≤ l.length ∧ i = .int .i64 k ∧ (∀ j < k, Wr.stepOk l j = true) ∧ wr = w.drewN m) (fun i _ => l.length - (RowKit.intOf i).toNat)
  case atStart => exact ⟨0, 0, Nat.zero_le _, rfl, fun j hj => absurd hj (Nat.not_lt_zero _), rfl⟩
  case round =>
    obtain ⟨k, m, hk, rfl, hst, rfl⟩ := hrel
    have HS := Lib.hid hst
    clear hst
    by_cases hlt : k < l.length
    · have hi : (k : Int) < (l.length : Int) := by omega
      obtain ⟨b, off, rfl, hbl, hc⟩ := HC.out (by rintro rfl; simp at hlt)
      obtain ⟨c0, c1⟩ := ff_cells (fun i u hu => hc k hlt i u hu)
      have HCC := Lib.hid hc
      clear hc
      have hok := OK.out _ (List.getElem_mem hlt)
      have hse := Wr.stepOk_at l k hlt
      have HSY := Lib.hid (step_yes l k hlt HS.out)
      have HNO := Lib.hid (Wr.right_no l k hlt)
      obtain ⟨f, hf⟩ : ∃ f, f = l[k] := ⟨_, rfl⟩
      rw [← hf] at hok hse c0 c1
      clear hf
      obtain ⟨n, t⟩ := f
      obtain ⟨ok1, ok2⟩ := hok
      simp only at ok1 ok2 c0 c1
      have hz1 := bs_size n
      have hz2 := bs_size t
      simp only [maxLen] at ok1 ok2
      have hfile : Wr.fileOk (n, t) = (Wr.nameOk n && decide (t.length ≤ 4000)) := rfl
      rw [hfile] at hse
      simp only at hse
      by_cases hn : Wr.nameOk n = true
      · rw [hn, Bool.true_and] at hse
        by_cases ht : t.length ≤ 4000
        · rw [decide_eq_true ht, Bool.true_and] at hse
          have ht' : decide ((4000 : Int) < ((bs t).size : Int)) = false := decide_eq_false (by omega)
          have ht2 : decide ((4000 : Int) < (t.length : Int)) = false := decide_eq_false (by omega)
          have ht3 : decide (4000 < t.length) = false := decide_eq_false (by omega)
          have ht4 : t.length ≤ 4000 := ht
          rcases Nat.eq_zero_or_pos k with hk0 | hk0
          · have HS2 := Lib.hid (HSY.out (by rw [hse, hk0]; rfl))
            clear hse
            subst hk0
            simp only [Nat.zero_mul, Nat.add_zero] at c0 c1
            go_wp2_with (go_at_call 50; refine (rName_b n _ (by simp only [maxLen]; omega) hn).mono ?_; rintro e w' ⟨rfl, rfl⟩)
            go_quiet (fail)
            go_wp2_with fail
            go_roundw
            case rel => exact ⟨1, _, by omega, rfl, HS2.out, by first | rfl | exact World.drewN_drewN _ _ _⟩
            case measure => simp [RowKit.intOf]; omega
          · obtain ⟨j, hj⟩ : ∃ j, k = j + 1 := ⟨k - 1, by omega⟩
            have hjl : j < l.length := by omega
            have hjb : Wr.befOk l k n = Wr.less l[j].1 n := by rw [hj]; exact Wr.befOk_at l j hjl n
            rw [hjb] at hse
            obtain ⟨d0, d1⟩ := ff_cells (fun i u hu => HCC.out j hjl i u hu)
            generalize l[j] = pf at *
            obtain ⟨pn, pt⟩ := pf
            simp only at d0 d1 hse
            have hkj : (k : Int) - 1 = (j : Int) := by omega
            have i0 : (0 : Int) ≤ (j : Int) := by omega
            have i1 : (j : Int) < (l.length : Int) := by omega
            have i2 : (0 : Int) < (k : Int) := by omega
            have hb0 : Op.bytesLess (bs pn).toList (bs n).toList = Wr.less pn n := by rw [toListB, toListB]
            have hwj : IntKind.i64.wrap ((k : Int) - 1) = (j : Int) := by rw [hkj]; exact IntWalk.i64_in _ (by omega)
            clear hjb hj
            by_cases hl : Wr.less pn n = true
            · rw [hl] at hb0 hse
              have HS2 := Lib.hid (HSY.out hse)
              clear hl hse
              go_wp2_with (go_at_call 50; refine (rName_b n _ (by simp only [maxLen]; omega) hn).mono ?_; rintro e w' ⟨rfl, rfl⟩)
              go_quiet (fail)
              go_wp2_with fail
              go_roundw
              case rel => exact ⟨k + 1, _, by omega, by go_num, HS2.out, by first | rfl | exact World.drewN_drewN _ _ _⟩
              case measure => simp [RowKit.intOf]; omega
            · have hl : Wr.less pn n = false := by simpa using hl
              rw [hl] at hb0 hse
              have HN2 := Lib.hid (HNO.out hse)
              clear hl hse
              go_wp2_with (go_at_call 50; refine (rName_b n _ (by simp only [maxLen]; omega) hn).mono ?_; rintro e w' ⟨rfl, rfl⟩)
              go_quiet (fail)
              go_wp2_with fail
              go_ret
              exact ⟨by rw [HN2.out]; rfl, _, by first | rfl | exact World.drewN_drewN _ _ _⟩
        · rw [decide_eq_false ht, Bool.false_and] at hse
          have HN2 := Lib.hid (HNO.out hse)
          have ht' : decide ((4000 : Int) < ((bs t).size : Int)) = true := decide_eq_true (by omega)
          have ht2 : decide ((4000 : Int) < (t.length : Int)) = true := decide_eq_true (by omega)
          have ht3 : decide (4000 < t.length) = true := decide_eq_true (by omega)
          clear hse
          go_wp2_with (go_at_call 50; refine (rName_b n _ (by simp only [maxLen]; omega) hn).mono ?_; rintro e w' ⟨rfl, rfl⟩)
          go_ret
          exact ⟨by rw [HN2.out]; rfl, _, by first | rfl | exact World.drewN_drewN _ _ _⟩
      · have hn : Wr.nameOk n = false := by simpa using hn
        rw [hn, Bool.false_and, Bool.false_and] at hse
        have HN2 := Lib.hid (HNO.out hse)
        clear hse
        go_wp2_with (go_at_call 50; refine (rName_b n _ (by simp only [maxLen]; omega) hn).mono ?_; rintro e w' ⟨rfl, rfl⟩)
        go_ret
        exact ⟨by rw [HN2.out]; rfl, _, by first | rfl | exact World.drewN_drewN _ _ _⟩
    · obtain rfl : k = l.length := by omega
      have HE := Lib.hid (Wr.right_end l HS.out)
      by_cases h32 : l.length ≤ 32
      · have HF : Hid (Wr.right l = true) := Lib.hid (by rw [HE.out]; exact decide_eq_true h32)
        have h4 : decide ((l.length : Int) ≤ 32) = true := decide_eq_true (by omega)
        go_wp2_with fail
        go_ret
        exact ⟨by rw [HF.out]; first | rfl | (simp; omega), _, rfl⟩
      · have HF : Hid (Wr.right l = false) := Lib.hid (by rw [HE.out]; exact decide_eq_false h32)
        have h4 : decide ((l.length : Int) ≤ 32) = false := decide_eq_false (by omega)
        go_wp2_with fail
        go_ret
        exact ⟨by rw [HF.out]; first | rfl | (simp; omega), _, rfl⟩
end Go.Proofs.YtkoegbjnhoecoaaGreatDoor
