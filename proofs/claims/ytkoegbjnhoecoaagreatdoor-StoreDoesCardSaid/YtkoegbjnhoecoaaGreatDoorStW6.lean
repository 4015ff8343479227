/- (*Store).lay. -/
import Derived.Test.YtkoegbjnhoecoaaGreatDoorStW5
namespace Go.Proofs.YtkoegbjnhoecoaaGreatDoor
open Go.RowKit Tx

theorem sync_inR {B : Nat} {w0 w : World} {a : Nat} {s : Dk.St} {R : List Nat} (r : Int) (h : Dk.InR B w0 w a s R) (hp : s.pend.length + s.cnt < 1000000) (hr : (Dk.sync s).1 = r) :
    Calls Tryz.prog 32 #[.pointer (some ⟨a, 0, none⟩)] w fun e w' => e = .returned (.int .i64 r) ∧ Dk.InR B w0 w' a (Dk.sync s).2 R ∧ Dk.Same R w w' := by
  obtain ⟨hB, hb, hR, F, hF, hF2⟩ := h
  exact (dSync_any a s F w hF hp).mono fun _ _ ⟨h1, h2⟩ => ⟨hr ▸ h1, Dk.InR.does hB hb hR hF2 h2⟩
theorem write_yes (s : Dk.St) (i : Nat) (t : ByteArray) (hi : (i : Int) < s.n) (ht : t.size ≤ 64) (hd : Dk.dead s.lim = false) : Dk.write s i t = (0, { s with lim := Dk.used s.lim, pend := s.pend ++ [((i : Int), t)] }) := by
  have h1 : Dk.has s (i : Int) = true := by unfold Dk.has; simp [hi]
  unfold Dk.write
  rw [h1, hd, if_neg (by simp), if_neg (by omega), if_neg (by simp)]
theorem write_no (s : Dk.St) (i : Nat) (t : ByteArray) (hi : (i : Int) < s.n) (ht : t.size ≤ 64) (hd : Dk.dead s.lim = true) : Dk.write s i t = (8, s) := by
  have h1 : Dk.has s (i : Int) = true := by unfold Dk.has; simp [hi]
  unfold Dk.write
  rw [h1, hd, if_neg (by simp), if_neg (by omega), if_pos rfl]
theorem inR_drew {B : Nat} {w0 w : World} {a : Nat} {s : Dk.St} {R : List Nat} (h : Dk.InR B w0 w a s R) : Dk.InR B w0 w.drew a s R := (h.below ((Below.refl _ _).drew)).1
theorem dead_some {l : Option Int} (h : Dk.dead l = true) : l ≠ none := by rintro rfl; cases h
theorem Same.trans {R : List Nat} {w w1 w2 : World} (h : Dk.Same R w w1) (h2 : Dk.Same R w1 w2) : Dk.Same R w w2 := fun k hk => (h2 k hk).trans (h k hk)
/-- What stays of a disk while a half is written. -/
structure Base (d d' : Dk.St) : Prop where
  n : d'.n = d.n
  live : d.lim = none → d'.lim = none
/-- A half was written, and synced. -/
structure LaidA (n a : Nat) (U : Bs) (d d' : Dk.St) : Prop where
  base : Base d d'
  held : d'.held = Dk.puts d.held (Sq.lay n a U (Sq.cnt U))
  pend : d'.pend = []
  cnt : d'.cnt = d.cnt + Sq.cnt U
  alive : Dk.dead d.lim = false
/-- The disk stopped meanwhile. -/
structure LaidB (n a : Nat) (U : Bs) (d d' : Dk.St) : Prop where
  base : Base d d'
  held : d'.held = d.held
  pend : ∃ k, k ≤ Sq.cnt U ∧ d'.pend = Sq.lay n a U k
  cnt : d'.cnt = d.cnt
  lim : d.lim ≠ none
  first : Dk.dead d.lim = true → d'.pend = []
/-- So far. -/
structure LaidK (n a : Nat) (U : Bs) (k : Nat) (d d' : Dk.St) : Prop where
  base : Base d d'
  held : d'.held = d.held
  pend : d'.pend = Sq.lay n a U k
  cnt : d'.cnt = d.cnt
  zero : k = 0 → d'.lim = d.lim
  more : 0 < k → Dk.dead d.lim = false
theorem LaidK.start (n a : Nat) (U : Bs) (d : Dk.St) (hp : d.pend = []) : LaidK n a U 0 d d := ⟨⟨rfl, id⟩, rfl, by rw [hp]; rfl, rfl, fun _ => rfl, fun h => absurd h (by omega)⟩
theorem LaidK.dead {n a : Nat} {U : Bs} {k : Nat} {d d' : Dk.St} (h : LaidK n a U k d d') (hk : k ≤ Sq.cnt U) (hd : Dk.dead d'.lim = true) : LaidB n a U d d' :=
  ⟨h.base, h.held, ⟨k, hk, h.pend⟩, h.cnt, fun e => dead_some hd (h.base.live e), fun e => by
    rcases Nat.eq_zero_or_pos k with h0 | h0
    · rw [h.pend, h0]; rfl
    · rw [h.more h0] at e; cases e⟩
theorem used_none {l : Option Int} (h : l = none) : Dk.used l = none := by rw [h]; rfl
theorem LaidK.alive {n a : Nat} {U : Bs} {k : Nat} {d d' : Dk.St} (h : LaidK n a U k d d') (hd : Dk.dead d'.lim = false) : Dk.dead d.lim = false := by
  rcases Nat.eq_zero_or_pos k with e | e
  · rw [← h.zero e]; exact hd
  · exact h.more e
theorem LaidK.step {n a : Nat} {U : Bs} {k : Nat} {d d' : Dk.St} (h : LaidK n a U k d d') (hd : Dk.dead d'.lim = false) : LaidK n a U (k + 1) d { d' with lim := Dk.used d'.lim, pend := d'.pend ++ [(((Sq.from_ n a + k : Nat) : Int), bs (Sq.chunk U k))] } :=
  ⟨⟨h.base.n, fun e => used_none (h.base.live e)⟩, h.held, by rw [Sq.lay_succ, ← h.pend], h.cnt, fun e => absurd e (by omega), fun _ => h.alive hd⟩
theorem sync_yes (s : Dk.St) (hd : Dk.dead s.lim = false) : Dk.sync s = (0, { s with lim := Dk.used s.lim, held := Dk.puts s.held s.pend, cnt := s.cnt + s.pend.length, pend := [] }) := by
  unfold Dk.sync
  rw [hd, if_neg (by simp)]
theorem sync_no (s : Dk.St) (hd : Dk.dead s.lim = true) : Dk.sync s = (8, s) := by
  unfold Dk.sync
  rw [hd, if_pos rfl]
theorem LaidK.sync {n a : Nat} {U : Bs} {d d' : Dk.St} (h : LaidK n a U (Sq.cnt U) d d') (hd : Dk.dead d'.lim = false) : LaidA n a U d { d' with lim := Dk.used d'.lim, held := Dk.puts d'.held d'.pend, cnt := d'.cnt + d'.pend.length, pend := [] } :=
  ⟨⟨h.base.n, fun e => used_none (h.base.live e)⟩, by rw [← h.pend, ← h.held], rfl, by simp only [h.pend, Sq.lay_len, h.cnt], h.alive hd⟩
def LayPost (B : Nat) (w0 w : World) (bd n a : Nat) (U : Bs) (d : Dk.St) (R : List Nat) (e : Ending) (w' : World) : Prop :=
  ∃ d', Dk.InR B w0 w' bd d' R ∧ Dk.Same R w w' ∧ ((e = .returned (.tuple #[]) ∧ LaidA n a U d d') ∨ (e = .panicked deadV ∧ LaidB n a U d d'))
set_option maxRecDepth 100000 in
set_option maxHeartbeats 8000000 in
theorem lay_any {B : Nat} {w0 w : World} {bd : Nat} {d : Dk.St} {R : List Nat} (n a sb : Nat) (h0 h1 : Sq.Head) (fv : Value) (U : Bs) (h : Dk.InR B w0 w bd d R) (hm : sb ∈ R) (hs : w.heap[sb]? = some (SBlk bd h0 h1 fv)) (hn : d.n = (n : Int)) (h4 : 4 ≤ n ∧ n ≤ 4096) (ha : a ≤ 1)
    (hp : d.pend = []) (hc : d.cnt < 900000) (hU : U.length ≤ 64 * Sq.half n) :
    Calls Tryz.prog 28 #[.pointer (some ⟨sb, 0, none⟩), .int .i64 a, vs U] w (LayPost B w0 w bd n a U d R) := by
  have HL := Lib.hid (len_in h.to_in)
  have HHA := Lib.hid (half_any n h4)
  have hql := half_le n h4.2
  have hcl := Sq.cnt_le hU
  have hK0 := LaidK.start n a U d hp
  have HIN := Lib.hid h
  have HQ : Hid (Sq.half n = (n - 2) / 2) := Lib.hid rfl
  have HFR : Hid (Sq.from_ n a = 2 + a * Sq.half n) := Lib.hid rfl
  rw [hn] at HL
  have HS : Hid (∀ wx, Dk.Same R w wx → wx.cell? ⟨sb, 0, none⟩ = some (.pointer (some ⟨bd, 0, none⟩))) := Lib.hid (fun wx hx => (sblk_cells (w := wx) ((hx sb hm).trans hs)).1)
  have d0 := (sblk_cells hs).1
  have HN := Lib.hid hn
  obtain ⟨q, hq⟩ : ∃ q, q = Sq.half n := ⟨_, rfl⟩
  rw [← hq] at hql hcl HHA HQ HFR
  obtain ⟨f, hf⟩ : ∃ f, f = a * q := ⟨_, rfl⟩
  have hfl : f ≤ q := by rw [hf]; rcases (by omega : a = 0 ∨ a = 1) with rfl | rfl <;> simp
  have v1 : IntKind.i64.wrap ((a : Int) * (q : Int)) = (f : Int) := by rw [hf, IntWalk.i64_in _ (by rcases (by omega : a = 0 ∨ a = 1) with rfl | rfl <;> simp <;> omega)]; simp
  have v2 : IntKind.i64.wrap (2 + (f : Int)) = ((2 + f : Nat) : Int) := by rw [IntWalk.i64_in _ (by omega)]; omega
  obtain ⟨F, hF⟩ : ∃ F, F = 2 + f := ⟨_, rfl⟩
  rw [← hF] at v2
  have HFF : Hid (Sq.from_ n a = F) := Lib.hid (by rw [HFR.out, hF, hf])
  have HFL : Hid (F + q ≤ n) := Lib.hid (by rw [hF]; have := HQ.out; omega)
  have hFl : F ≤ 3000 := by omega
  have hul : U.length ≤ 200000 := by have := hq; omega
  clear hf hF HFR hq h hn hs hp
  go_enter Tryz.func28, Tryz.ntmps28
  go_wp2_with fail
  refine HL.out.mono ?_
  rintro e w1 ⟨rfl, rfl⟩
  go_wp2_with fail
  refine (HHA.out w).mono ?_
  rintro e w1 ⟨rfl, rfl⟩
  go_wp2_with fail
  go_loopw [2, 7] (fun t i wr => ∃ (k : Nat) (dk : Dk.St), k ≤ Sq.cnt U ∧ t = vs (U.drop (64 * k)) ∧ i = .int .i64 k ∧ Dk.InR B w0 wr bd dk R ∧ Dk.Same R w wr ∧ LaidK n a U k d dk) (fun _ i _ => Sq.cnt U - (RowKit.intOf i).toNat)
  case atStart => exact ⟨0, d, Nat.zero_le _, by simp, rfl, HIN.out, fun _ _ => rfl, hK0⟩
  case round =>
    clear hK0 d0
    obtain ⟨k, dk, hk, rfl, rfl, hin, hsame, hK⟩ := hrel
    have c0 := HS.out wr hsame
    have HI := Lib.hid hin
    have HSM := Lib.hid hsame
    have HK := Lib.hid hK
    obtain ⟨X, hX⟩ : ∃ X, X = U.drop (64 * k) := ⟨_, rfl⟩
    have hXl : X.length = U.length - 64 * k := by rw [hX]; simp
    have hz := bs_size X
    have hpl : dk.pend.length < 1000000 := by rw [hK.pend, Sq.lay_len]; omega
    have hcn : dk.cnt = d.cnt := hK.cnt
    have hpk : dk.pend.length = k := by rw [hK.pend, Sq.lay_len]
    have hdn : dk.n = (n : Int) := hK.base.n.trans HN.out
    rw [← hX]
    by_cases hlt : k < Sq.cnt U
    · have hpos : 0 < (X.length : Int) := by unfold Sq.cnt at hlt; omega
      obtain ⟨m, hm⟩ : ∃ m : Nat, m = min 64 X.length := ⟨_, rfl⟩
      have hmin : min (64 : Int) (X.length : Int) = (m : Int) := by omega
      have hif : (if (X.length : Int) < 64 then (X.length : Int) else 64) = (m : Int) := by split <;> omega
      have hif2 : (if 64 < (X.length : Int) then 64 else (X.length : Int)) = (m : Int) := by split <;> omega
      have hif3 : (if 64 ≤ (X.length : Int) then 64 else (X.length : Int)) = (m : Int) := by split <;> omega
      have m0 : (0 : Int) ≤ (m : Int) := by omega
      have m1 : (m : Int) ≤ (X.length : Int) := by omega
      have x1 : (bs X).extract 0 m = bs (Sq.chunk U k) := by
        rw [bs_extract', List.drop_zero, hX]
        unfold Sq.chunk
        congr 1
        rw [hm, hX]
        rw [List.take_eq_take_iff]
        simp
      have x2 : (bs X).extract m X.length = bs (U.drop (64 * (k + 1))) := by
        rw [bs_extract', List.take_length, hX, List.drop_drop]
        by_cases hx : 64 ≤ X.length
        · have : m = 64 := by omega
          rw [this, Nat.mul_succ]
        · rw [List.drop_eq_nil_of_le (by omega), List.drop_eq_nil_of_le (by omega)]
      obtain ⟨G, hG⟩ : ∃ G, G = F + k := ⟨_, rfl⟩
      have hGn : (G : Int) < dk.n := by rw [hdn]; have := HFL.out; omega
      have hGl : G ≤ 6000 := by omega
      have v3 : IntKind.i64.wrap ((F : Int) + (k : Int)) = (G : Int) := by rw [hG, IntWalk.i64_in _ (by omega)]; simp
      have v4 : IntKind.i64.wrap ((k : Int) + 1) = ((k + 1 : Nat) : Int) := by rw [IntWalk.i64_in _ (by omega)]; simp
      have hGe : Sq.from_ n a + k = G := by rw [HFF.out, hG]
      have hcs : (bs (Sq.chunk U k)).size ≤ 64 := by rw [bs_size]; exact Sq.chunk_len U k
      cases hd : Dk.dead dk.lim with
      | true =>
        have HWR := Lib.hid (write_inR (w := wr.drew) 8 G (bs (Sq.chunk U k)) (inR_drew HI.out) hpl (by omega) (WalkArith.wf_i64 (by omega)) (by rw [write_no dk G _ hGn hcs hd]))
        have HF := Lib.hid (HK.out.dead hk hd)
        rw [write_no dk G _ hGn hcs hd] at HWR
        clear hd hin hsame hK hX hm hG hGn hGe hlt hdn hpk hXl
        go_wp2_with fail
        refine wp_region_quiet_tail 10 (by kernel_rfl) (by kernel_rfl) ?_
        simp only [List.take_succ_cons, List.take_zero, List.drop_succ_cons, List.drop_zero]
        repeat (go_big_quiet_step (fail))
        refine wpQuiet_nil ?_
        go_wp2_with fail
        refine HWR.out.mono ?_
        rintro e w2 ⟨rfl, I2, S2⟩
        go_wp2_with fail
        refine (must_dead w2).mono ?_
        rintro e w3 ⟨rfl, rfl⟩
        exact ⟨rfl, dk, I2, Same.trans HSM.out S2, .inr ⟨rfl, HF.out⟩⟩
      | false =>
        have HWR := Lib.hid (write_inR (w := wr.drew) 0 G (bs (Sq.chunk U k)) (inR_drew HI.out) hpl (by omega) (WalkArith.wf_i64 (by omega)) (by rw [write_yes dk G _ hGn hcs hd]))
        have HF := Lib.hid (HK.out.step hd)
        rw [hGe] at HF
        rw [write_yes dk G _ hGn hcs hd] at HWR
        clear hd hin hsame hK hX hm hG hGn hGe hdn hpk hXl
        go_wp2_with fail
        refine wp_region_quiet_tail 10 (by kernel_rfl) (by kernel_rfl) ?_
        simp only [List.take_succ_cons, List.take_zero, List.drop_succ_cons, List.drop_zero]
        repeat (go_big_quiet_step (fail))
        refine wpQuiet_nil ?_
        go_wp2_with fail
        refine HWR.out.mono ?_
        rintro e w2 ⟨rfl, I2, S2⟩
        go_wp2_with fail
        refine (must_ok w2).mono ?_
        rintro e w3 ⟨rfl, rfl⟩
        go_wp2_with fail
        go_roundw
        case rel => exact ⟨k + 1, _, by omega, rfl, rfl, I2, Same.trans HSM.out S2, HF.out⟩
        case measure => simp [RowKit.intOf]; omega
    · obtain rfl : k = Sq.cnt U := by omega
      have hxe : X = [] := List.eq_nil_of_length_eq_zero (by unfold Sq.cnt at *; omega)
      subst hxe
      clear hX hin hsame hK hz hXl
      have hz : (bs ([] : Bs)).size = 0 := rfl
      cases hd : Dk.dead dk.lim with
      | true =>
        have HSY := Lib.hid (sync_inR 8 HI.out (by omega) (by rw [sync_no dk hd]))
        have HF := Lib.hid (HK.out.dead (Nat.le_refl _) hd)
        rw [sync_no dk hd] at HSY
        clear hd
        go_wp2_with fail
        refine HSY.out.mono ?_
        rintro e w2 ⟨rfl, I2, S2⟩
        go_wp2_with fail
        refine (must_dead w2).mono ?_
        rintro e w3 ⟨rfl, rfl⟩
        exact ⟨rfl, dk, I2, Same.trans HSM.out S2, .inr ⟨rfl, HF.out⟩⟩
      | false =>
        have HSY := Lib.hid (sync_inR 0 HI.out (by omega) (by rw [sync_yes dk hd]))
        have HF := Lib.hid (HK.out.sync hd)
        rw [sync_yes dk hd] at HSY
        clear hd
        go_wp2_with fail
        refine HSY.out.mono ?_
        rintro e w2 ⟨rfl, I2, S2⟩
        go_wp2_with fail
        refine (must_ok w2).mono ?_
        rintro e w3 ⟨rfl, rfl⟩
        go_wp2_with fail
        go_end0
        exact ⟨_, I2, Same.trans HSM.out S2, .inl ⟨rfl, HF.out⟩⟩
end Go.Proofs.YtkoegbjnhoecoaaGreatDoor
