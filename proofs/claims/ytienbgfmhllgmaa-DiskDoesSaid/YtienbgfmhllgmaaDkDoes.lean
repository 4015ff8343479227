/- The walk of stetlaw04.DiskDoes. -/
import Derived.Test.YtienbgfmhllgmaaRows
import Derived.Test.YtienbgfmhllgmaaKit
import Derived.Test.YtienbgfmhllgmaaRowC
import Derived.Test.YtienbgfmhllgmaaSep
import Derived.Test.YtienbgfmhllgmaaDk6
import Derived.Test.YtienbgfmhllgmaaDk7
import Derived.Test.YtienbgfmhllgmaaDr7
import Derived.Test.YtienbgfmhllgmaaDr8
namespace Go.Proofs.Ytienbgfmhllgmaa
open Go.Maps Go.RowKit

/-- An Op as its four cells. -/
abbrev OpT := Int × Int × ByteArray × Option Addr × Nat × Nat
def opf (x : OpT) : List Value := [.int .i64 x.1, .int .i64 x.2.1, .string x.2.2.1, .slice x.2.2.2.1 x.2.2.2.2.1 x.2.2.2.2.2]
def OpOk (w : World) (x : OpT) : Prop := (Lit.int .i64 x.1).wf = true ∧ (Lit.int .i64 x.2.1).wf = true ∧ x.2.2.1.size ≤ maxLen ∧ ∃ ks, Row Value.bool w w.heap.size (.slice x.2.2.2.1 x.2.2.2.2.1 x.2.2.2.2.2) ks

theorem in_ops {H : Type} {enc : TypeId × Value → H} {w : World} {base : Nat} {spare : Nat → Bool} {held : Bool} {a : Option Addr} {len cap : Nat} {d : DataW H} {p : List MemPlace}
    (h : DataW.Trod enc Try.prog w base spare held 43 (.slice a len cap) d p) :
    ∃ xs : List OpT, xs.length = len ∧ RowC 4 opf w w.heap.size (.slice a len cap) xs ∧ ∀ x ∈ xs, OpOk w x := by
  refine rowC_open 4 opf (OpOk w) Try.underlying43 (by kernel_rfl) (by decide) (fun fuel cs y hy => ?_) h
  obtain ⟨ys, m, _, _, h1, h2, h3⟩ := DataW.trod_struct Try.underlying51 hy
  have hc : Try.prog.cellsOf 51 = 4 := by kernel_rfl
  have c1 : Try.prog.cellsOf 3 = 1 := by kernel_rfl
  have c2 : Try.prog.cellsOf 9 = 1 := by kernel_rfl
  have c3 : Try.prog.cellsOf 39 = 1 := by kernel_rfl
  rw [hc] at h1
  have e0 : DataW.trod enc Try.prog w base spare held m 3 ((cs.drop 0).take (Try.prog.cellsOf 3)) = ys[0]? := h3 0 _ rfl
  have e1 : DataW.trod enc Try.prog w base spare held m 3 ((cs.drop 1).take (Try.prog.cellsOf 3)) = ys[1]? := h3 1 _ rfl
  have e2 : DataW.trod enc Try.prog w base spare held m 9 ((cs.drop 2).take (Try.prog.cellsOf 9)) = ys[2]? := h3 2 _ rfl
  have e3 : DataW.trod enc Try.prog w base spare held m 39 ((cs.drop 3).take (Try.prog.cellsOf 39)) = ys[3]? := h3 3 _ rfl
  rw [c1] at e0 e1
  rw [c2] at e2
  rw [c3] at e3
  match cs, h1 with
  | [v0, v1, v2, v3], _ =>
    rw [List.getElem?_eq_getElem (by rw [h2]; decide)] at e0 e1 e2 e3
    obtain ⟨x0, g0, _, k0⟩ := DataW.trod_int Try.underlying3 e0
    obtain ⟨x1, g1, _, k1⟩ := DataW.trod_int Try.underlying3 e1
    obtain ⟨x2, g2, _, k2⟩ := DataW.trod_string Try.underlying9 e2
    simp at g0 g1 g2
    subst g0; subst g1; subst g2
    have e3' : DataW.trod enc Try.prog w base spare held m 39 [v3] = some _ := e3
    rcases DataW.trod_slice Try.underlying39 e3' with ⟨hcs, _⟩ | ⟨x, len', cap', _, _, _, _, hcs, _⟩
    all_goals
      cases hcs
      obtain ⟨ks, _, hr⟩ := in_bools Try.underlying39 Try.underlying4 (by kernel_rfl) ⟨m, e3'⟩
      exact ⟨(x0, x1, x2, _, _, _), rfl, k0, k1, k2, ks, hr⟩

def HP.emp : HP := ⟨fun _ F => F = [], fun _ _ h k hk => by simp [h] at hk, fun _ _ _ h _ => h⟩
theorem HP.Own.none (w : World) : HP.Own w.heap.size w w HP.emp := ⟨[], rfl, by simp, Below.refl _ _, Nat.le_refl _⟩

/-- Two disks of the program, two of the document's, each pair the same. -/
def Four (B : Nat) (w0 : World) (a c k : Nat) (p q : Value) (w : World) : Prop :=
  ∃ a2 c2 s t s2 t2, p = .pointer (some ⟨a2, 0, .none⟩) ∧ q = .pointer (some ⟨c2, 0, .none⟩) ∧ Rd.Rel s t ∧ Rd.Rel s2 t2 ∧ s.pend.length + s.cnt ≤ k ∧ s2.pend.length + s2.cnt ≤ k ∧
    HP.Own B w0 w (Dk.part a s ⊗ (Rd.part c t ⊗ (Dk.part a2 s2 ⊗ (Rd.part c2 t2 ⊗ HP.emp))))

theorem rNew_no (n : Int) (hn : n < 1 ∨ 4096 < n) (w : World) :
    Calls Try.prog 16 #[.int .i64 n] w fun e w' => e = .returned (.tuple #[.pointer none, .int .i64 1]) ∧ w = w' := by
  go_enter Try.func16, Try.ntmps16
  go_wp2
  all_goals first | (exfalso; omega) | skip
  all_goals go_ret2
  all_goals exact ⟨rfl, rfl⟩

theorem four_swap {A C A2 C2 E : HP} : HP.Has (A ⊗ (C ⊗ (A2 ⊗ (C2 ⊗ E)))) (A2 ⊗ (C2 ⊗ (A ⊗ (C ⊗ E)))) := by
  have r := fun P Q R => HP.Has.rot P Q R
  have m : ∀ {P Q R : HP}, HP.Has Q R → HP.Has (P ⊗ Q) (P ⊗ R) := fun h => HP.Has.mono (HP.Has.refl _) h
  exact (((m (r C A2 (C2 ⊗ E))).trans (r A A2 (C ⊗ (C2 ⊗ E)))).trans (m (m (r C C2 E)))).trans (m (r A C2 (C ⊗ E)))
/-- Both copied anew. -/
theorem four_rot {B : Nat} {w0 w : World} {A C A2 C2 P Q E : HP} (h : HP.Own B w0 w (Q ⊗ (C ⊗ (P ⊗ (A ⊗ E))))) : HP.Own B w0 w (A ⊗ (C ⊗ (P ⊗ (Q ⊗ E)))) := by
  have h1 : HP.Own B w0 w (C ⊗ (P ⊗ (A ⊗ (Q ⊗ E)))) := (h.has (HP.Has.rot _ _ _)).has (HP.Has.mono (HP.Has.refl _) ((HP.Has.rot _ _ _).trans (HP.Has.mono (HP.Has.refl _) (HP.Has.rot _ _ _))))
  have h2 : HP.Own B w0 w (C ⊗ (A ⊗ (P ⊗ (Q ⊗ E)))) := h1.has (HP.Has.mono (HP.Has.refl _) (HP.Has.rot _ _ _))
  exact h2.rot

/-- A call behind a block that was laid just now. -/
theorem HP.callA {B : Nat} {w0 w : World} {P P' Q : HP} {f : Nat} {args : Array Value} {R : Ending → Prop} (h : HP.Own B w0 w (P ⊗ Q)) (o : Obj)
    (hc : ∀ F, P.p (w.alloc o) F → (∀ k ∈ F, B ≤ k ∧ k < w.heap.size) → Calls Try.prog f args (w.alloc o) fun e w' => R e ∧ HP.Does P' (w.alloc o) F w') : Calls Try.prog f args (w.alloc o) fun e w' => R e ∧ HP.Own B w0 w' (P' ⊗ Q) := by
  obtain ⟨F, ⟨F1, F2, rfl, h1, h2, h3⟩, hB, hb, hs⟩ := h
  have ha : Below w.heap.size w (w.alloc o) := (Below.refl _ _).alloc (Nat.le_refl _) o
  refine (hc F1 (HP.keep_below h1 ha) (fun k hk => ⟨hB k (List.mem_append_left _ hk), P.lt w F1 h1 k hk⟩)).mono fun e w' ⟨hr, hd⟩ => ⟨hr, ?_⟩
  obtain ⟨F', h4, hm, h5⟩ := HP.frame (HP.keep_below h2 ha) h3 hd
  refine ⟨F', h4, fun k hk => ?_, (hb.alloc hs o).trans (hm.below (Nat.le_trans hs ha.size) hB), Nat.le_trans hs (Nat.le_trans ha.size hm.size)⟩
  rcases h5 k hk with h6 | h6
  · exact hB k h6
  · exact Nat.le_trans hs (Nat.le_trans ha.size h6)
theorem row_new {w w' : World} (ks : List Bool) (e : TypeId) {F : List Nat} (hF : ∀ k ∈ F, k < w.heap.size) (hk : ks.length ≤ maxLen) (hm : Moved (w.alloc (.cells (ks.map Value.bool).toArray e)) w' F) :
    ∃ B, Row Value.bool w' B (.slice (some ⟨w.heap.size, 0, none⟩) ks.length ks.length) ks := by
  refine ⟨_, Row.mk_at (B := w.heap.size + 1) (Nat.le_refl _) hk (Nat.lt_succ_self _) (fun j hj => ?_)⟩
  have h1 : w'.heap[w.heap.size]? = some (.cells (ks.map Value.bool).toArray e (0, 0)) := (hm.block _ (by simp) (fun hk => absurd (hF _ hk) (Nat.lt_irrefl _))).trans (heap_alloc_new _ _)
  rw [Nat.zero_add, cell_of_row _ w.heap.size j _ e (0, 0) h1]
  simp [hj]
theorem oCrashA {B : Nat} {w0 w : World} {a : Nat} {s : Dk.St} {Q : HP} (ks : List Bool) (e : TypeId) (h : HP.Own B w0 w (Dk.part a s ⊗ Q)) (hp : s.pend.length + s.cnt < 1000000) (hk : ks.length ≤ maxLen) :
    Calls Try.prog 13 #[.pointer (some ⟨a, 0, none⟩), .slice (some ⟨w.heap.size, 0, none⟩) ks.length ks.length] (w.alloc (.cells (ks.map Value.bool).toArray e)) fun e w' => e = .returned (.tuple #[]) ∧ HP.Own B w0 w' (Dk.part a (Dk.crash s ks) ⊗ Q) :=
  HP.callA h _ fun F hF hB => dCrash_any a s F _ ks _ hF hp fun _ hm => row_new ks e (fun k hk => (hB k hk).2) hk hm
theorem orCrashA {B : Nat} {w0 w : World} {a : Nat} {t : Rd.St} {Q : HP} (ks : List Bool) (e : TypeId) (h : HP.Own B w0 w (Rd.part a t ⊗ Q)) (hp : t.pend.length < 1000000) (hk : ks.length ≤ maxLen) :
    Calls Try.prog 21 #[.pointer (some ⟨a, 0, none⟩), .slice (some ⟨w.heap.size, 0, none⟩) ks.length ks.length] (w.alloc (.cells (ks.map Value.bool).toArray e)) fun e w' => e = .returned (.tuple #[]) ∧ HP.Own B w0 w' (Rd.part a (Rd.crash t ks) ⊗ Q) :=
  HP.callA h _ fun F hF hB => rCrash_any a t F _ ks _ hF hp fun _ hm => row_new ks e (fun k hk => (hB k hk).2) hk hm

set_option maxRecDepth 100000 in
set_option maxHeartbeats 2000000 in
theorem does_no (n : Int) (v : Value) (cut : Int) (w : World) (hn : n < 1 ∨ 4096 < n) :
    Calls Try.prog 7 #[.int .i64 n, v, .int .u8 cut] w fun e w' => e = .returned (.bool true) ∧ Below w.heap.size w w' := by
  go_enter Try.func7, Try.ntmps7
  go_wp2_with fail
  refine (new_no n hn).mono ?_
  rintro e w1 ⟨rfl, rfl⟩
  go_wp2_with fail
  refine (rNew_no n hn _).mono ?_
  rintro e w1 ⟨rfl, rfl⟩
  go_wp2_with fail
  refine (dfixed_any _).mono ?_
  rintro e w1 ⟨rfl, hb⟩
  go_wp2_with fail
  go_ret
  exact ⟨rfl, hb⟩

set_option maxRecDepth 100000 in
set_option maxHeartbeats 4000000 in
theorem does_yes (n : Int) (v : Value) (z : List OpT) (cut : Int) (w : World) (hn : 1 ≤ n ∧ n ≤ 4096) (wc : (Lit.int .u8 cut).wf = true) (hr : RowC 4 opf w w.heap.size v z) (ok : ∀ x ∈ z, OpOk w x) :
    Calls Try.prog 7 #[.int .i64 n, v, .int .u8 cut] w fun e w' => e = .returned (.bool true) ∧ Below w.heap.size w w' := by
  obtain ⟨A0, c0, rfl, l0, m0, hA0⟩ := hr.shape
  have HA0 := Lib.hid hA0
  have HO := Lib.hid ok
  have hcut := bounds_u8 wc
  obtain ⟨N, rfl⟩ : ∃ N : Nat, n = (N : Int) := ⟨n.toNat, by omega⟩
  obtain ⟨hn1, hn2⟩ := hn
  clear hA0 ok hr wc
  go_enter Try.func7, Try.ntmps7
  go_wp2_with fail
  refine (dNew_any N ⟨hn1, hn2⟩ _).mono ?_
  rintro e w1 ⟨rfl, hb1, ho1⟩
  have h1 : HP.Own w.heap.size w w1 (Dk.part _ _ ⊗ HP.emp) := (HP.Own.none w).add hb1 ⟨_, ho1, fun k hk => by simp at hk; rcases hk with rfl | rfl <;> omega⟩
  generalize w.heap.size + 1 = a at *
  go_wp2_with fail
  refine (rNew_any N ⟨by omega, by omega⟩ _).mono ?_
  rintro e w2 ⟨c, rfl, hb2, _, hF2⟩
  have h2 := h1.add hb2 hF2
  clear ho1 hb1 hb2 hF2 h1
  go_wp2_with fail
  refine (oCopy h2.rot (by simp)).mono ?_
  rintro e w3 ⟨a2, rfl, h3⟩
  have h3 := h3.has ((HP.Has.mono (HP.Has.refl _) (HP.Has.rot _ _ _)).trans (HP.Has.rot _ _ _))
  go_wp2_with fail
  refine (orCopy h3 (by simp)).mono ?_
  rintro e w4 ⟨c2, rfl, h4⟩
  have hrel0 : Rd.Rel (⟨none, N, fun _ => none, 0, []⟩ : Dk.St) ⟨List.replicate N ⟨#[]⟩, [], -1⟩ := Rd.Rel.new N
  have hf : Four w.heap.size w a c 0 (.pointer (some ⟨a2, 0, none⟩)) (.pointer (some ⟨c2, 0, none⟩)) w4 := ⟨a2, c2, _, _, _, _, rfl, rfl, hrel0, hrel0, by simp, by simp, four_rot (A2 := HP.emp) (C2 := HP.emp) h4⟩
  clear h2 h3 h4 hrel0
  go_upto_block 0 with fail
  go_cut [11, 12] (fun p q wx => Four w.heap.size w a c 40 p q wx)
  case first =>
    go_wp2_with fail
    go_loopw [11, 12, 13] (fun p q i wr => ∃ k : Nat, k ≤ 40 ∧ i = .int .i64 k ∧ Four w.heap.size w a c k p q wr) (fun _ _ i _ => 40 - (intOf i).toNat)
    case atStart => exact ⟨0, Nat.zero_le _, rfl, hf⟩
    case round =>
      obtain ⟨k, hk, rfl, a2, c2, s, t, s2, t2, rfl, rfl, hrel, hrel2, hp, hp2, h2⟩ := hrel
      have HR := Lib.hid hrel
      have HR2 := Lib.hid hrel2
      have hpt : t.pend.length < 1000000 := by rw [hrel.len]; omega
      clear hf hrel hrel2
      by_cases hlt : k < z.length ∧ k < 40
      · obtain ⟨hlt0, hlt1⟩ := hlt
        obtain ⟨b, off, rfl, hb, hc⟩ := HA0.out (by rintro rfl; simp at hlt0)
        have hOK := HO.out _ (List.getElem_mem hlt0)
        have hc0 := hc k hlt0 0 _ rfl
        have hc1 := hc k hlt0 1 _ rfl
        have hc2 := hc k hlt0 2 _ rfl
        have hc3 := hc k hlt0 3 _ rfl
        clear hc
        generalize z[k] = y at *
        obtain ⟨y0, y1, y2, y3, y4, y5⟩ := y
        obtain ⟨_, hw1, _, ks, hrow⟩ := hOK
        simp only at hc0 hc1 hc2 hc3 hw1 hrow
        have HROW := Lib.hid hrow
        clear hrow
        have hx1 : (k : Int) < (z.length : Int) := by omega
        have hx2 : (k : Int) < 40 := by omega
        by_cases he : (k : Int) = cut % 40
        · have he2 : ((k : Int) == cut % 40) = true := by simp [he]
          have HE := Lib.hid he
          clear he
          go_wp2_with fail
          have h3 : HP.Own w.heap.size w wr (Dk.part a s ⊗ (Rd.part c t ⊗ HP.emp)) := h2.has (HP.Has.mono (HP.Has.refl _) (HP.Has.mono (HP.Has.refl _) ((HP.Has.snd _ _).trans (HP.Has.snd _ _))))
          refine (oCopy h3 (by omega)).mono ?_
          rintro e w5 ⟨a5, rfl, h5⟩
          have h5' := h5.has ((HP.Has.mono (HP.Has.refl _) (HP.Has.rot _ _ _)).trans (HP.Has.rot _ _ _))
          go_wp2_with fail
          refine (orCopy h5' hpt).mono ?_
          rintro e w6 ⟨c6, rfl, h6⟩
          have h7 := four_rot (A2 := HP.emp) (C2 := HP.emp) h6
          clear h2 h3 h5 h5' h6
          have hc0' := (h7.bel.cell (p := ⟨b, off + k * 4, none⟩) hb).trans hc0
          have hc1' := (h7.bel.cell (p := ⟨b, off + k * 4 + 1, none⟩) hb).trans hc1
          have hc2' := (h7.bel.cell (p := ⟨b, off + k * 4 + 2, none⟩) hb).trans hc2
          have hc3' := (h7.bel.cell (p := ⟨b, off + k * 4 + 3, none⟩) hb).trans hc3
          go_wp2_with fail
          refine (do_any y0 y1 y2 _ ks HR.out h7 (by omega) hw1 HROW.out).mono ?_
          rintro e w8 ⟨rfl, s8, t8, hr8, hp8, h8⟩
          go_wp2_with fail
          go_roundw
          case rel => exact ⟨k + 1, by omega, by go_num, _, _, s8, t8, s, t, rfl, rfl, hr8, HR.out, by omega, by omega, h8⟩
          case measure => simp [intOf]; omega
        · have he2 : ((k : Int) == cut % 40) = false := by simp [he]
          have HE := Lib.hid he
          clear he
          have hc0' := (h2.bel.cell (p := ⟨b, off + k * 4, none⟩) hb).trans hc0
          have hc1' := (h2.bel.cell (p := ⟨b, off + k * 4 + 1, none⟩) hb).trans hc1
          have hc2' := (h2.bel.cell (p := ⟨b, off + k * 4 + 2, none⟩) hb).trans hc2
          have hc3' := (h2.bel.cell (p := ⟨b, off + k * 4 + 3, none⟩) hb).trans hc3
          go_wp2_with fail
          refine (do_any y0 y1 y2 _ ks HR.out h2 (by omega) hw1 HROW.out).mono ?_
          rintro e w8 ⟨rfl, s8, t8, hr8, hp8, h8⟩
          go_wp2_with fail
          go_roundw
          case rel => exact ⟨k + 1, by omega, by go_num, _, _, s8, t8, s2, t2, rfl, rfl, hr8, HR2.out, by omega, by omega, h8⟩
          case measure => simp [intOf]; omega
      · have HF : Hid (Four w.heap.size w a c 40 (.pointer (some ⟨a2, 0, none⟩)) (.pointer (some ⟨c2, 0, none⟩)) wr) := ⟨a2, c2, s, t, s2, t2, rfl, rfl, HR.out, HR2.out, by omega, by omega, h2⟩
        by_cases hz : k < z.length
        all_goals
          go_wp2_with fail
          go_meet
          exact HF.out
  case rest =>
    obtain ⟨a2, c2, s, t, s2, t2, rfl, rfl, hrel, hrel2, hp, hp2, h2⟩ := hcut
    have HR := Lib.hid hrel
    have HR2 := Lib.hid hrel2
    have hpt2 : t2.pend.length < 1000000 := by rw [hrel2.len]; omega
    have hps : s.pend.length < 1000000 := by omega
    have hps2 : s2.pend.length < 1000000 := by omega
    have hpc2 : s2.pend.length + s2.cnt < 1000000 := by omega
    clear hf hrel hrel2 hcut
    obtain ⟨⟨A, cc, q0⟩, _, _, _⟩ := orCells h2.rot
    have HK := Lib.hid (And.intro (HR.out) (And.intro HR2.out (HR2.out.crash [true, false, true])))
    obtain ⟨m, hm⟩ : ∃ m, m = t.L.length := ⟨_, rfl⟩
    rw [← hm] at q0
    have HM := Lib.hid hm
    clear hm
    by_cases hsm : m ≤ 64
    · have hi1 : (m : Int) ≤ 64 := by omega
      have hi2 : ¬ (64 : Int) < (m : Int) := by omega
      go_wp2_with fail
      refine (same_any HK.out.1 h2 hps).mono ?_
      rintro e w3 ⟨rfl, h3⟩
      have h3' : HP.Own w.heap.size w w3 (Dk.part a2 s2 ⊗ (Rd.part c2 t2 ⊗ (Dk.part a s ⊗ (Rd.part c t ⊗ HP.emp)))) := h3.has four_swap
      go_wp2_with fail
      refine (same_any HK.out.2.1 h3' hps2).mono ?_
      rintro e w4 ⟨rfl, h4⟩
      go_wp2_with fail
      refine (oCrashA [true, false, true] _ h4 hpc2 (by decide)).mono ?_
      rintro e w5 ⟨rfl, h5⟩
      go_wp2_with fail
      refine (orCrashA [true, false, true] _ h5.rot hpt2 (by decide)).mono ?_
      rintro e w6 ⟨rfl, h6⟩
      obtain ⟨⟨A7, cc7, q7⟩, _, _, _⟩ := orCells (h6.has (four_swap.trans (HP.Has.rot _ _ _)))
      rw [← HM.out] at q7
      go_wp2_with fail
      refine (same_any HK.out.2.2 h6.rot (by simp [Dk.crash])).mono ?_
      rintro e w7 ⟨rfl, h7⟩
      go_wp2_with fail
      refine (dfixed_any _).mono ?_
      rintro e w9 ⟨rfl, hb9⟩
      go_wp2_with fail
      go_ret
      exact ⟨rfl, (h7.below hb9).bel⟩
    · have hi1 : ¬ (m : Int) ≤ 64 := by omega
      have hi2 : (64 : Int) < (m : Int) := by omega
      have h4 : HP.Own w.heap.size w wc (Dk.part a2 s2 ⊗ (Rd.part c2 t2 ⊗ (Dk.part a s ⊗ (Rd.part c t ⊗ HP.emp)))) := h2.has four_swap
      go_wp2_with fail
      refine (oCrashA [true, false, true] _ h4 hpc2 (by decide)).mono ?_
      rintro e w5 ⟨rfl, h5⟩
      go_wp2_with fail
      refine (orCrashA [true, false, true] _ h5.rot hpt2 (by decide)).mono ?_
      rintro e w6 ⟨rfl, h6⟩
      obtain ⟨⟨A7, cc7, q7⟩, _, _, _⟩ := orCells (h6.has (four_swap.trans (HP.Has.rot _ _ _)))
      rw [← HM.out] at q7
      go_wp2_with fail
      refine (dfixed_any _).mono ?_
      rintro e w9 ⟨rfl, hb9⟩
      go_wp2_with fail
      go_ret
      exact ⟨rfl, (h6.below hb9).bel⟩

theorem does_any (n : Int) (wn : (Lit.int .i64 n).wf = true) (v : Value) (z : List OpT) (cut : Int) (w : World) (wc : (Lit.int .u8 cut).wf = true) (hr : RowC 4 opf w w.heap.size v z) (ok : ∀ x ∈ z, OpOk w x) :
    Calls Try.prog 7 #[.int .i64 n, v, .int .u8 cut] w fun e w' => e = .returned (.bool true) ∧ Below w.heap.size w w' := by
  by_cases hn : 1 ≤ n ∧ n ≤ 4096
  · exact does_yes n v z cut w hn wc hr ok
  · exact does_no n v cut w (by omega)
end Go.Proofs.Ytienbgfmhllgmaa
