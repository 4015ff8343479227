/- Bounds of records that were cut. · The reference's Drop, Put, Map. · The reference's Map. · The plain law of RecordFresh: what a map tells behind a put and a drop. · A text more, at a step of a region that draws its order; texts cut to a length. -/
import Derived.Test.YtiogmegdkfnkkaaDoorRcCut
import Derived.Test.YtiogmegdkfnkkaaDoorQ11
import Derived.Test.YtiogmegdkfnkkaaDoorQ9
import Derived.Test.YtiogmegdkfnkkaaDoorQ3
import Derived.Test.YtiogmegdkfnkkaaDoorExt
import Derived.Test.YtiogmegdkfnkkaaDoorQ7
import Derived.Test.YtiogmegdkfnkkaaDoorQ2
namespace Go.Proofs.YtiogmegdkfnkkaaDoor
open Go.RowKit Tx

theorem may_recok {x : Rc.Rec} (h : Rc.mayR x = true) : RecOk x ∧ x.2.1.length < 1000000 := by
  obtain ⟨h1, h2, h3, h4⟩ := Rc.mayR_ok h
  refine ⟨⟨by simp only [maxLen]; omega, fun r hr => ?_, fun f hf => fileOk_FOk ((Wr.right_of h4).ok f hf)⟩, by omega⟩
  have := h1 r hr
  unfold Rc.seenOk at this
  simp only [Bool.and_eq_true, decide_eq_true_eq] at this
  exact ⟨by simp only [maxLen]; omega, by simp only [maxLen]; omega⟩
/-- The bounds of what was cut. -/
structure CutOk (x : Rc.Rec) : Prop where
  ok : RecOk x
  rule : x.1.length ≤ 120
  reads : x.2.1.length ≤ 8 ∧ ∀ r ∈ x.2.1, r.1.length ≤ 120 ∧ r.2.2.length ≤ 120
  writes : x.2.2.length ≤ 6 ∧ ∀ f ∈ x.2.2, f.1.length ≤ 120 ∧ f.2.length ≤ 120
theorem cutX_ok (x : Rc.Rec) : CutOk (cutX x) := by
  have hr : ∀ r ∈ (cutX x).2.1, r.1.length ≤ 120 ∧ r.2.2.length ≤ 120 := by
    intro r hr
    obtain ⟨q, _, rfl⟩ := List.mem_map.1 hr
    exact ⟨by simp only [cutS, List.length_take]; omega, by simp only [cutS, List.length_take]; omega⟩
  have hf : ∀ f ∈ (cutX x).2.2, f.1.length ≤ 120 ∧ f.2.length ≤ 120 := by
    intro f hf
    obtain ⟨q, _, rfl⟩ := List.mem_map.1 hf
    exact ⟨by simp only [cutF, List.length_take]; omega, by simp only [cutF, List.length_take]; omega⟩
  have h0 : (cutX x).1.length ≤ 120 := by simp only [cutX, List.length_take]; omega
  exact ⟨⟨by simp only [maxLen]; omega, fun r h => ⟨by have := (hr r h).1; simp only [maxLen]; omega, by have := (hr r h).2; simp only [maxLen]; omega⟩, fun f h => ⟨by have := (hf f h).1; simp only [maxLen]; omega, by have := (hf f h).2; simp only [maxLen]; omega⟩⟩,
    h0, ⟨by simp only [cutX, List.length_map, List.length_take]; omega, hr⟩, ⟨by simp only [cutX, List.length_map, List.length_take]; omega, hf⟩⟩
theorem cutL_ok (l : List Rc.Rec) (n : Nat) : (∀ x ∈ cutL l n, CutOk x) ∧ (cutL l n).length ≤ n := by
  refine ⟨fun x hx => ?_, by simp only [cutL, List.length_map, List.length_take]; omega⟩
  obtain ⟨q, _, rfl⟩ := List.mem_map.1 hx
  exact cutX_ok q
theorem reads_cut (l : List Rc.Seen) (h : ∀ r ∈ l, r.1.length ≤ 120 ∧ r.2.2.length ≤ 120) : (Rc.readsT l).length ≤ 257 * l.length := by
  induction l with
  | nil => simp [Rc.readsT]
  | cons r l ih =>
    have h1 := h r (by simp)
    have h2 := ih (fun q hq => h q (by simp [hq]))
    have h5 : (Rc.state r).length ≤ 121 := by unfold Rc.state; split <;> simp <;> omega
    have h3 := Rc.put_lt r.1 (by omega)
    have h4 := Rc.put_lt (Rc.state r) (by omega)
    rw [show Rc.readsT (r :: l) = Wr.put r.1 ++ Wr.put (Rc.state r) ++ Rc.readsT l by simp [Rc.readsT]]
    simp only [List.length_append, List.length_cons]
    omega
theorem files_cut (m : List Wr.F) (h : ∀ f ∈ m, f.1.length ≤ 120 ∧ f.2.length ≤ 120) : (Wr.files m).length ≤ 256 * m.length := by
  induction m with
  | nil => simp [Wr.files]
  | cons f m ih =>
    have h1 := h f (by simp)
    have h2 := ih (fun g hg => h g (by simp [hg]))
    have h3 := Rc.put_lt f.1 (by omega)
    have h4 := Rc.put_lt f.2 (by omega)
    rw [show Wr.files (f :: m) = Wr.put f.1 ++ Wr.put f.2 ++ Wr.files m by simp [Wr.files]]
    simp only [List.length_append, List.length_cons]
    omega
theorem text_cut {x : Rc.Rec} (h : CutOk x) : (Rc.text x).length ≤ 4000 := by
  have a := reads_cut x.2.1 h.reads.2
  have b := files_cut x.2.2 h.writes.2
  have a2 := h.reads.1
  have b2 := h.writes.1
  have c0 := h.rule
  have c := Rc.put_lt x.1 (by omega)
  have d := Rc.put_lt (Rc.readsT x.2.1) (by omega)
  have e := Rc.put_lt (Wr.files x.2.2) (by omega)
  unfold Rc.text
  simp only [List.length_append]
  omega
theorem bytes_cut (l : List Rc.Rec) (h : ∀ x ∈ l, CutOk x) : (Rc.bytes l).length ≤ 13 + 4008 * l.length := by
  induction l using Tx.snoc_ind with
  | nil =>
    have h1 := Rc.put_lt Rc.stet1 (by decide)
    have h2 : Rc.stet1.length = 5 := rfl
    have h3 : Rc.bytes [] = Wr.put Rc.stet1 := by simp [Rc.bytes]
    rw [h3]
    omega
  | snoc l x ih =>
    rw [Rc.bytes_snoc, List.length_append, List.length_append]
    have h1 := ih (fun y hy => h y (by simp [hy]))
    have h2 := text_cut (h x (by simp))
    have h3 := Rc.put_lt (Rc.text x) (by omega)
    simp only [List.length_cons, List.length_nil]
    omega
end Go.Proofs.YtiogmegdkfnkkaaDoor
namespace Go.Proofs.YtiogmegdkfnkkaaDoor
open Go.RowKit Tx

theorem drop_step (l : List Wr.F) (n : Wr.Bs) (k : Nat) (h : k < l.length) : Wr.dropF (l.take (k + 1)) n = Wr.dropF (l.take k) n ++ if l[k].1 == n then [] else [l[k]] := by
  unfold Wr.dropF
  rw [List.take_succ_eq_append_getElem h, List.filter_append]
  congr 1
  cases hc : l[k].1 == n <;> simp [hc]
theorem dropF_le (l : List Wr.F) (n : Wr.Bs) : (Wr.dropF l n).length ≤ l.length := List.length_filter_le _ _
/-- A slice value that is not nil. -/
def Som (v : Value) (n : Nat) : Prop := ∃ g cap, v = .slice (some ⟨g, 0, none⟩) n cap
theorem OwnC.som {base : Nat} {w : World} {v : Value} {l : List Wr.F} (h : OwnC 58 2 ff base w v l) (hne : l ≠ []) : Som v l.length := by
  obtain ⟨g, cap, rfl, _⟩ := h.shape ff_length hne
  exact ⟨g, cap, rfl⟩

set_option maxRecDepth 100000 in
set_option maxHeartbeats 4000000 in
theorem drop_any (v : Value) (l : List Wr.F) (n : Bs) (w : World) (hr : RowC 2 ff w w.heap.size v l) (hl : l.length < 1000000) :
    Calls Tryd.prog 26 #[v, vs n] w fun e w' => ∃ o, e = .returned (.tuple #[o, .bool (decide ((Wr.dropF l n).length < l.length))]) ∧ OwnC 58 2 ff w.heap.size w' o (Wr.dropF l n) ∧ Som o (Wr.dropF l n).length ∧ Below w.heap.size w w' := by
  obtain ⟨A, cap, rfl, h1, h2, h3⟩ := hr.shape
  have HC := Lib.hid h3
  clear h3 hr
  have hmade := OwnC.made 58 2 ff w.heap.size w (Nat.le_refl _)
  go_enter Tryd.func26, Tryd.ntmps26
  go_wp2_with fail
  go_loopw [6, 7] (fun o i wr => ∃ k : Nat, k ≤ l.length ∧ i = .int .i64 k ∧ OwnC 58 2 ff w.heap.size wr o (Wr.dropF (l.take k) n) ∧ Som o (Wr.dropF (l.take k) n).length ∧ Below w.heap.size w wr) (fun _ i _ => l.length - (RowKit.intOf i).toNat)
  case atStart => exact ⟨0, Nat.zero_le _, rfl, hmade, ⟨_, _, rfl⟩, (Below.refl _ _).alloc (Nat.le_refl _) _⟩
  case round =>
    clear hmade
    obtain ⟨k, hk, rfl, ho, hsom, hbel⟩ := hrel
    have hle := hbel.size
    by_cases hlt : k < l.length
    · have hi : (k : Int) < (l.length : Int) := by omega
      have hi0 : (0 : Int) ≤ (k : Int) := by omega
      obtain ⟨b, off, rfl, hbl, hc⟩ := HC.out (by rintro rfl; simp at hlt)
      obtain ⟨c0, c1⟩ := ff_cells (fun i u hu => (hbel.cell (p := ⟨b, off + k * 2 + i, none⟩) hbl).trans (hc k hlt i u hu))
      have hst := drop_step l n k hlt
      have hol : (Wr.dropF (l.take k) n).length ≤ k := Nat.le_trans (dropF_le _ _) (by simp; omega)
      clear hc
      generalize l[k] = f at *
      obtain ⟨x, y⟩ := f
      simp only at c0 c1 hst
      have HO := Lib.hid ho
      clear ho
      by_cases hxn : x = n
      · subst hxn
        have HS : Hid (Wr.dropF (l.take (k + 1)) x = Wr.dropF (l.take k) x) := Lib.hid (by rw [hst]; simp)
        have HSM := Lib.hid hsom
        clear hst hsom
        go_wp2_with fail
        go_roundw
        case rel => exact ⟨k + 1, by omega, by go_num, by rw [HS.out]; exact HO.out, by rw [HS.out]; exact HSM.out, hbel⟩
        case measure => simp [RowKit.intOf]; omega
      · have HS : Hid (Wr.dropF (l.take (k + 1)) n = Wr.dropF (l.take k) n ++ [(x, y)]) := Lib.hid (by rw [hst]; simp [hxn])
        have e1 : ((bs x).toList == (bs n).toList) = false := by rw [toListB, toListB]; simpa using hxn
        have e2 : ((bs x).toList != (bs n).toList) = true := by rw [bne, e1]; rfl
        clear hst hsom hxn
        go_wp2_with (at_builtin; refine app_file rfl (.tmp 22) (.tmp 27) rfl w.heap.size _ (Wr.dropF (l.take k) n) (x, y) rfl wr.heap.size rfl rfl HO.out hle (by omega) ?_; intro v' w4 h8 h9 h10)
        go_roundw
        case rel => exact ⟨k + 1, by omega, by go_num, by rw [HS.out]; exact h8, by rw [HS.out]; exact h8.som (by simp), hbel.trans h9⟩
        case measure => simp [RowKit.intOf]; omega
    · obtain rfl : k = l.length := by omega
      rw [List.take_length] at ho hsom
      have HO := Lib.hid ho
      obtain ⟨g, c, rfl⟩ := hsom
      clear ho
      have HDD : Hid (decide (((Wr.dropF l n).length : Int) < (l.length : Int)) = decide ((Wr.dropF l n).length < l.length)) := Lib.hid (by
        rw [decide_eq_decide]; omega)
      go_wp2_with fail
      go_ret2
      exact ⟨.slice (some ⟨g, 0, none⟩) (Wr.dropF l n).length c, by rw [← HDD.out]; rfl, HO.out, ⟨g, c, rfl⟩, hbel⟩

theorem row_news {w : World} {B b off len cap : Nat} {D : List Wr.F} (h : RowC 2 ff w B (.slice (some ⟨b, off, none⟩) len cap) D) (k : Nat) (hk : k < D.length) :
    ∀ j u, ((D.drop k).flatMap ff)[j]? = some u → w.cell? ((⟨b, off + k * 2, none⟩ : Addr).add j) = some u := by
  intro j u hj
  obtain ⟨A, c, e, _, _, h3⟩ := h.shape
  injection e with e1 e2 e3
  obtain ⟨b', off', e4, _, hc⟩ := h3 (by rintro rfl; simp at hk)
  rw [← e1] at e4
  injection e4 with e4
  injection e4 with e5 e6
  subst e5 e6
  have hjl : j < (D.drop k).length * 2 := by
    have := (List.getElem?_eq_some_iff.1 hj).1
    rwa [flat_length ff_length] at this
  have h1 : j / 2 < (D.drop k).length := by omega
  have h2 := flat_at ff_length (D.drop k) (j / 2) (j % 2) h1 (by omega)
  rw [show j / 2 * 2 + j % 2 = j by omega, hj] at h2
  rw [List.getElem_drop] at h2
  have h4 := hc (k + j / 2) (by simp at h1; omega) (j % 2) u h2.symm
  rw [Addr.add_lit]
  rw [show off + k * 2 + j = off + (k + j / 2) * 2 + j % 2 by omega]
  exact h4

def putE (l : List Wr.F) (f : Wr.F) : Nat := match Wr.putF l f with | .ok _ => 0 | .error e => e
def putL (l : List Wr.F) (f : Wr.F) : List Wr.F := match Wr.putF l f with | .ok m => m | .error _ => []
theorem tw_step (D : List Wr.F) (n : Wr.Bs) (k : Nat) (hk : k < D.length) (h1 : ∀ j, ∀ h : j < D.length, j < k → Wr.less D[j].1 n = true) (h2 : Wr.less D[k].1 n = false) :
    D.take k = D.takeWhile (fun g => Wr.less g.1 n) ∧ D.drop k = D.dropWhile (fun g => Wr.less g.1 n) := by
  induction D generalizing k with
  | nil => simp at hk
  | cons a D ih =>
    cases k with
    | zero => simp at h2; simp [h2]
    | succ k =>
      have ha := h1 0 (by simp) (by omega)
      simp at ha
      have := ih k (by simpa using hk) (fun j h hj => by have := h1 (j + 1) (by simp; omega) (by omega); simpa using this) (by simpa using h2)
      simp [ha, this]
theorem tw_end (D : List Wr.F) (n : Wr.Bs) (h1 : ∀ j, ∀ h : j < D.length, Wr.less D[j].1 n = true) :
    D.take D.length = D.takeWhile (fun g => Wr.less g.1 n) ∧ D.drop D.length = D.dropWhile (fun g => Wr.less g.1 n) := by
  induction D with
  | nil => simp
  | cons a D ih =>
    have ha := h1 0 (by simp)
    simp at ha
    have := ih (fun j h => by have := h1 (j + 1) (by simp; omega); simpa using this)
    simp at this
    simp [ha]
    exact ⟨this.1, this.2⟩

set_option maxRecDepth 100000 in
set_option maxHeartbeats 4000000 in
theorem putF_any (v : Value) (l : List Wr.F) (n t : Bs) (w : World) (hr : RowC 2 ff w w.heap.size v l) (hl : l.length < 100000) (hn : n.length ≤ maxLen) (ht : t.length ≤ maxLen) :
    Calls Tryd.prog 25 #[v, .agg #[vs n, vs t]] w fun e w' => ∃ o, e = .returned (.tuple #[o, .int .i64 (putE l (n, t))]) ∧ RowC 2 ff w' w'.heap.size o (putL l (n, t)) ∧ (∀ k, o.ownBlock = some k → w.heap.size ≤ k) ∧ Below w.heap.size w w' := by
  obtain ⟨A, cap, rfl, c1, c2, c3⟩ := hr.shape
  have hm1 := hn
  have hzt := bs_size t
  simp only [maxLen] at hn ht
  by_cases hnm : Wr.nameOk n = true
  case neg =>
    have hnm : Wr.nameOk n = false := by simpa using hnm
    have HE : Hid (putE l (n, t) = 2 ∧ putL l (n, t) = []) := Lib.hid (by unfold putE putL Wr.putF; rw [if_pos hnm]; exact ⟨rfl, rfl⟩)
    have HN := Lib.hid (fun w => rName_b n w hm1 hnm)
    clear hr c3 hnm
    go_enter Tryd.func25, Tryd.ntmps25
    go_wp2_with fail
    refine (HN.out _).mono ?_
    rintro e w1 ⟨rfl, rfl⟩
    go_wp2_with fail
    go_ret2
    exact ⟨.slice none 0 0, by rw [HE.out.1]; rfl, by rw [HE.out.2]; exact row_none _ _, (fun k h => by cases h), (Below.refl _ _).alloc (Nat.le_refl _) _⟩
  case pos =>
    have HN := Lib.hid (fun w => rName_b n w hm1 hnm)
    have hb1 : Below w.heap.size w (w.alloc (.cells #[.string (bs n), .string (bs t)] 58)) := (Below.refl _ _).alloc (Nat.le_refl _) _
    obtain ⟨d0, d1⟩ := box_cells (w := w) (x := n) (y := t)
    have HRL := Lib.hid (hr.step hb1)
    have HNM := Lib.hid hnm
    clear hr c3 hnm
    obtain ⟨g0, hg0⟩ : ∃ g, g = w.heap.size := ⟨_, rfl⟩
    go_enter Tryd.func25, Tryd.ntmps25
    rw [← hg0] at d0 d1
    have HG0 := Lib.hid hg0
    go_wp2_with fail
    rw [← hg0]
    clear hg0
    generalize hwb : w.alloc (.cells #[.string (bs n), .string (bs t)] 58) = wb at *
    clear hwb
    refine (HN.out _).mono ?_
    rintro e w1 ⟨rfl, rfl⟩
    go_wp2_with fail
    refine (drop_any _ l n wb HRL.out (by omega)).mono ?_
    rintro e w2 ⟨o, rfl, ho, ⟨g, c, rfl⟩, hb2⟩
    have hle2 := hb2.size
    have hg0l : g0 < wb.heap.size := World.block_lt_of_cell? wb ⟨g0, 0, none⟩ (by rw [d0])
    have e0 := (hb2.cell (p := ⟨g0, 0, none⟩) hg0l).trans d0
    have e1 := (hb2.cell (p := ⟨g0, 1, none⟩) hg0l).trans d1
    have hgl2 : g0 < w2.heap.size := Nat.lt_of_lt_of_le hg0l hle2
    have HB2 := Lib.hid (below_via hb1 hb2)
    have hdl := dropF_le l n
    have HPF : Hid (Wr.putF l (n, t) = if 4000 < t.length ∨ (¬ (Wr.dropF l n).length < l.length ∧ 32 ≤ l.length) then .error 3 else .ok (Wr.ins (Wr.dropF l n) (n, t))) := Lib.hid (by
      unfold Wr.putF
      rw [if_neg (by simpa using HNM.out)])
    have HD := Lib.hid (ho.rowC ff_length)
    clear ho hb1 hb2 d0 d1 HN HRL HNM
    generalize Wr.dropF l n = D at *
    obtain ⟨BC, hBC⟩ : ∃ BC : Bool, BC = decide (4000 < t.length ∨ (¬ D.length < l.length ∧ 32 ≤ l.length)) := ⟨_, rfl⟩
    have HBC := Lib.hid hBC
    clear hBC
    go_upto_region 4 with fail
    go_cut [34] (fun b wx => b = .bool BC ∧ wx = w2)
    case first =>
      by_cases h1 : 4000 < t.length
      · have HT : Hid (BC = true) := Lib.hid (by rw [HBC.out]; exact decide_eq_true (.inl h1))
        have q1 : decide ((4000 : Int) < ((bs t).size : Int)) = true := decide_eq_true (by omega)
        have q2 : decide ((4000 : Int) < (t.length : Int)) = true := decide_eq_true (by omega)
        have q3 : decide (4000 < t.length) = true := decide_eq_true h1
        go_wp2_with fail
        go_meet
        exact ⟨by rw [HT.out], rfl⟩
      · have q1 : decide ((4000 : Int) < ((bs t).size : Int)) = false := decide_eq_false (by omega)
        have q2 : decide ((4000 : Int) < (t.length : Int)) = false := decide_eq_false (by omega)
        have q3 : decide (4000 < t.length) = false := decide_eq_false h1
        by_cases h2 : D.length < l.length
        · have HT : Hid (BC = false) := Lib.hid (by rw [HBC.out]; exact decide_eq_false (by omega))
          have r1 : decide (D.length < l.length) = true := decide_eq_true h2
          go_wp2_with fail
          go_meet
          exact ⟨by rw [HT.out], rfl⟩
        · have r1 : decide (D.length < l.length) = false := decide_eq_false h2
          by_cases h3 : 32 ≤ l.length
          · have HT : Hid (BC = true) := Lib.hid (by rw [HBC.out]; exact decide_eq_true (by omega))
            have s1 : decide ((32 : Int) ≤ (l.length : Int)) = true := decide_eq_true (by omega)
            have s2 : decide (32 ≤ l.length) = true := decide_eq_true h3
            go_wp2_with fail
            go_meet
            exact ⟨by rw [HT.out], rfl⟩
          · have HT : Hid (BC = false) := Lib.hid (by rw [HBC.out]; exact decide_eq_false (by omega))
            have s1 : decide ((32 : Int) ≤ (l.length : Int)) = false := decide_eq_false (by omega)
            have s2 : decide (32 ≤ l.length) = false := decide_eq_false h3
            go_wp2_with fail
            go_meet
            exact ⟨by rw [HT.out], rfl⟩
    case rest =>
      obtain ⟨rfl, hcw⟩ := hcut
      have hcw' := hcw.symm
      subst hcw'
      clear hcw
      cases BC with
      | true =>
        have hbc := of_decide_eq_true HBC.out.symm
        have HE : Hid (putE l (n, t) = 3 ∧ putL l (n, t) = []) := Lib.hid (by unfold putE putL; rw [HPF.out, if_pos hbc]; exact ⟨rfl, rfl⟩)
        clear hbc
        go_wp2_with fail
        go_ret2
        exact ⟨.slice none 0 0, by rw [HE.out.1]; rfl, by rw [HE.out.2]; exact row_none _ _, (fun k h => by cases h), HB2.out⟩
      | false =>
        have hbc := of_decide_eq_false HBC.out.symm
        have HE : Hid (putE l (n, t) = 0 ∧ putL l (n, t) = Wr.ins D (n, t)) := Lib.hid (by unfold putE putL; rw [HPF.out, if_neg hbc]; exact ⟨rfl, rfl⟩)
        clear hbc HPF HBC
        obtain ⟨A', c', hsh, m1, m2, m3⟩ := HD.out.shape
        injection hsh with hsh1 hsh2 hsh3
        subst hsh1 hsh3
        have HDC := Lib.hid m3
        have hmade := OwnC.made 58 2 ff w2.heap.size w2 (Nat.le_refl _)
        have E0 := Lib.hid e0
        have E1 := Lib.hid e1
        clear m3 hsh2
        obtain ⟨B2, hB2⟩ : ∃ B, B = w2.heap.size := ⟨_, rfl⟩
        go_upto_block 0 with fail
        go_cut [8] (fun o wx => ∃ k, k ≤ D.length ∧ D.take k = D.takeWhile (fun g => Wr.less g.1 n) ∧ D.drop k = D.dropWhile (fun g => Wr.less g.1 n) ∧ OwnC 58 2 ff w2.heap.size wx o (D.take k) ∧ Som o k ∧ Below w2.heap.size w2 wx)
        case first =>
          go_wp2_with fail
          go_loopw [8, 9] (fun o i wr => ∃ k : Nat, k ≤ D.length ∧ i = .int .i64 k ∧ (∀ j, ∀ h : j < D.length, j < k → Wr.less D[j].1 n = true) ∧ OwnC 58 2 ff w2.heap.size wr o (D.take k) ∧ Som o k ∧ Below w2.heap.size w2 wr) (fun _ i _ => D.length - (RowKit.intOf i).toNat)
          case atStart => exact ⟨0, Nat.zero_le _, rfl, fun j h hj => absurd hj (Nat.not_lt_zero _), hmade, ⟨_, _, rfl⟩, (Below.refl _ _).alloc (Nat.le_refl _) _⟩
          case round =>
            clear hmade
            obtain ⟨k, hk, rfl, hls, ho, hsom, hbel⟩ := hrel
            have hle := hbel.size
            have f0 := (hbel.cell (p := ⟨g0, 0, none⟩) hgl2).trans E0.out
            have HLS := Lib.hid hls
            have HO := Lib.hid ho
            have HSM := Lib.hid hsom
            clear hls ho hsom
            by_cases hlt : k < D.length
            · obtain ⟨b, off, hbo, hbl, hc⟩ := HDC.out (by rintro rfl; simp at hlt)
              injection hbo with hbo
              injection hbo with hbo1 hbo2
              subst hbo1 hbo2
              obtain ⟨k0, k1⟩ := ff_cells (fun i u hu => (hbel.cell (p := ⟨g, 0 + k * 2 + i, none⟩) hbl).trans (hc k hlt i u hu))
              have hi : (k : Int) < (D.length : Int) := by omega
              have hi0 : (0 : Int) ≤ (k : Int) := by omega
              have HTS := Lib.hid (tw_step D n k hlt HLS.out)
              have HTK : Hid (D.take (k + 1) = D.take k ++ [D[k]]) := Lib.hid (List.take_succ_eq_append_getElem hlt)
              have HNX : Hid (Wr.less D[k].1 n = true → ∀ j, ∀ h : j < D.length, j < k + 1 → Wr.less D[j].1 n = true) := Lib.hid (fun hx j h hj => by
                by_cases hjk : j = k
                · subst hjk; exact hx
                · exact HLS.out j h (by omega))
              clear hc
              generalize D[k] = q at *
              obtain ⟨x, y⟩ := q
              simp only [Nat.zero_add] at k0 k1 HTS HTK HNX
              have hb0 : Op.bytesLess (bs x).toList (bs n).toList = Wr.less x n := by rw [toListB, toListB]
              have hkc : k < D.length := hlt
              by_cases hxl : Wr.less x n = true
              · rw [hxl] at hb0
                have HN2 := Lib.hid (HNX.out hxl)
                have hol : (D.take k).length < 1000000 := by simp; omega
                clear hxl
                go_wp2_with fail
                go_quiet (fail)
                go_wp2_with (at_builtin; refine app_file (w0 := World.drewN _ _) rfl (.tmp 52) (.tmp 57) rfl w2.heap.size _ (D.take k) (x, y) rfl wr.heap.size rfl rfl HO.out hle hol ?_; intro v' w4 h8 h9 h10)
                go_roundw
                case rel => exact ⟨k + 1, by omega, by go_num, HN2.out, by rw [HTK.out]; exact h8, by have := h8.som (by simp); rw [show (D.take k ++ [(x, y)]).length = k + 1 by simp; omega] at this; exact this, (below_drewN hbel _).trans h9⟩
                case measure => simp [RowKit.intOf]; omega
              · have hxl : Wr.less x n = false := by simpa using hxl
                rw [hxl] at hb0
                have HT2 := Lib.hid (HTS.out hxl)
                clear hxl
                go_wp2_with fail
                go_quiet (fail)
                go_wp2_with fail
                go_meet
                exact ⟨k, by omega, HT2.out.1, HT2.out.2, HO.out, HSM.out, below_drewN hbel _⟩
            · obtain rfl : k = D.length := by omega
              have HT2 := Lib.hid (tw_end D n (fun j h => HLS.out j h h))
              have hnl : ¬ (D.length : Int) < (D.length : Int) := by omega
              go_wp2_with fail
              go_quiet (fail)
              go_wp2_with fail
              go_meet
              exact ⟨D.length, Nat.le_refl _, HT2.out.1, HT2.out.2, HO.out, HSM.out, below_drewN hbel _⟩
        case rest =>
          obtain ⟨k, hk, htk, hdk, ho, ⟨g3, c3, rfl⟩, hbel⟩ := hcut
          clear hmade
          obtain ⟨w3, hw3⟩ : ∃ w', w' = wc := ⟨_, rfl⟩
          subst hw3
          have hle := hbel.size
          have f0 := (hbel.cell (p := ⟨g0, 0, none⟩) hgl2).trans E0.out
          have f1 := (hbel.cell (p := ⟨g0, 1, none⟩) hgl2).trans E1.out
          have HO := Lib.hid ho
          have HINS : Hid (Wr.ins D (n, t) = (D.take k ++ [(n, t)]) ++ D.drop k) := Lib.hid (by unfold Wr.ins; rw [← htk, ← hdk]; simp)
          have hol : (D.take k).length = k := by simp; omega
          have hkl : k < 1000000 := by omega
          have hbel3 := Lib.hid hbel
          clear ho htk hdk hbel
          go_upto_region 13 with (at_builtin; refine app_file rfl (.tmp 61) (.tmp 63) rfl w2.heap.size _ (D.take k) (n, t) rfl w3.heap.size rfl rfl HO.out hle (by omega) ?_; intro v4 w4 h8 h9 h10)
          have hb4 : Below w2.heap.size w2 w4 := hbel3.out.trans h9
          have hle4 := hb4.size
          have HR4 := Lib.hid (HD.out.below hb4 (Nat.le_refl _))
          have H8 := Lib.hid h8
          have hkI : (k : Int) ≤ (D.length : Int) := by omega
          have hkI0 : (0 : Int) ≤ (k : Int) := by omega
          have hDc : (D.length : Int) ≤ (c : Int) := by omega
          clear h8 h10
          obtain ⟨ad, had, hnews⟩ : ∃ ad, slAddr (some ⟨g, 0, none⟩) k c 2 = some ad ∧ ∀ j u, ((D.drop k).flatMap ff)[j]? = some u → w4.cell? (ad.add j) = some u := by
            by_cases hkD : k < D.length
            · refine ⟨⟨g, 0 + k * 2, none⟩, ?_, row_news HR4.out k hkD⟩
              simp only [slAddr]
              rw [if_neg (by omega)]
              simp [Addr.add_lit]
            · refine ⟨(slAddr (some ⟨g, 0, none⟩) k c 2).getD ⟨g, 0, none⟩, ?_, ?_⟩
              · simp only [slAddr]
                split <;> simp
              · intro j u hj
                rw [List.drop_of_length_le (by omega)] at hj
                simp at hj
          have HNW := Lib.hid hnews
          have HLEN : Hid (((D.drop k).flatMap ff).length = (D.length - k) * 2) := Lib.hid (by rw [flat_length ff_length]; simp)
          have HONE : Hid (∀ u ∈ (D.drop k).flatMap ff, u.oneCell' = true) := Lib.hid (fun u hu => by
            obtain ⟨f, _, hf⟩ := List.mem_flatMap.1 hu
            simp [ff] at hf
            rcases hf with rfl | rfl <;> rfl)
          obtain ⟨i0, hi0, hz0, hz1, hz2⟩ := info_parts fileInfo
          have h8l : (D.take k ++ [(n, t)]).length = k + 1 := by simp; omega
          have hsz : (k + 1) + (D.length - k) ≤ 200000 := by omega
          have HI := Lib.hid (And.intro hi0 (And.intro hz0 (And.intro hz1 hz2)))
          clear hnews hi0 hz0 hz1 hz2
          go_wp2_with (at_builtin; refine wpList_append_own _ rfl (.tmp 65) (.tmp 68) 23 rfl w2.heap.size 58 i0 _ 2 32 Tryd.underlying23 HI.out.1 HI.out.2.1 HI.out.2.2.1 HI.out.2.2.2 rfl (by decide) v4 (D.take k ++ [(n, t)]).length _ rfl H8.out ad (D.length - k) (c - k) ((D.drop k).flatMap ff) rfl HLEN.out HNW.out HONE.out (by simp only [maxLen]; omega) (by omega) hle4 ?_; intro v5 w5 h11 h12 h13)
          have h11' : OwnC 58 2 ff w2.heap.size w5 v5 ((D.take k ++ [(n, t)]) ++ D.drop k) := by
            have e : ((D.take k ++ [(n, t)]) ++ D.drop k).length = (D.take k ++ [(n, t)]).length + (D.length - k) := by simp; omega
            unfold OwnC
            rw [e, List.flatMap_append]
            exact h11
          have hb5 : Below w2.heap.size w2 w5 := hb4.trans (grown_below H8.out hle4 h12)
          go_wp2_with fail
          go_ret2
          exact ⟨v5, by rw [HE.out.1]; rfl, by rw [HE.out.2, HINS.out]; exact h11'.rowC ff_length, fun k h => Nat.le_trans HB2.out.size (h11'.lt k h).1, HB2.out.trans (hb5.mono HB2.out.size)⟩
end Go.Proofs.YtiogmegdkfnkkaaDoor
namespace Go.Proofs.YtiogmegdkfnkkaaDoor
open Go.RowKit Tx

theorem map_step (l : List Wr.F) (b k : Nat) (h : k < l.length) : Wr.mapF l (k + 1) b = if putE (Wr.mapF l k b) (l[k].1, l[k].2.take b) = 0 then putL (Wr.mapF l k b) (l[k].1, l[k].2.take b) else Wr.mapF l k b := by
  unfold Wr.mapF
  rw [List.take_succ_eq_append_getElem h, List.foldl_append]
  simp only [List.foldl_cons, List.foldl_nil]
  generalize (l.take k).foldl (Wr.mapS b) [] = M
  unfold Wr.mapS putE putL
  cases hp : Wr.putF M (l[k].1, l[k].2.take b) with
  | ok m => simp
  | error e =>
    have : e ≠ 0 := by
      unfold Wr.putF at hp
      split at hp
      · injection hp with hp; omega
      · split at hp
        · injection hp with hp; omega
        · cases hp
    simp [this]
theorem map_end (l : List Wr.F) (b m : Nat) (h : l.length ≤ m) : Wr.mapF l m b = Wr.mapF l l.length b := by
  unfold Wr.mapF
  rw [List.take_of_length_le h, List.take_length]
theorem mapF_le (l : List Wr.F) (n b : Nat) : (Wr.mapF l n b).length ≤ 32 := (Wr.mapF_right l n b).most

set_option maxRecDepth 100000 in
set_option maxHeartbeats 4000000 in
theorem mapF_any (v : Value) (l : List Wr.F) (most bytes : Nat) (w : World) (hr : RowC 2 ff w w.heap.size v l) (ok : ∀ f ∈ l, FOk f) (hm : most ≤ 1000) (hby : bytes ≤ 100000) :
    Calls Tryd.prog 8 #[v, .int .i64 most, .int .i64 bytes] w fun e w' => ∃ o, e = .returned o ∧ RowC 2 ff w' w'.heap.size o (Wr.mapF l most bytes) ∧ (∀ k, o.ownBlock = some k → w.heap.size ≤ k) ∧ Below w.heap.size w w' := by
  obtain ⟨A, cap, rfl, c1, c2, c3⟩ := hr.shape
  have HC := Lib.hid c3
  have OK := Lib.hid ok
  clear c3 ok hr
  have hmade := (OwnC.made 58 2 ff w.heap.size w (Nat.le_refl _)).rowC ff_length
  go_enter Tryd.func8, Tryd.ntmps8
  go_wp2_with fail
  go_loopw [7, 8] (fun o i wr => ∃ k : Nat, k ≤ most ∧ k ≤ l.length ∧ i = .int .i64 k ∧ RowC 2 ff wr wr.heap.size o (Wr.mapF l k bytes) ∧ (∀ k, o.ownBlock = some k → w.heap.size ≤ k) ∧ Below w.heap.size w wr) (fun _ i _ => most - (RowKit.intOf i).toNat)
  case atStart => exact ⟨0, Nat.zero_le _, Nat.zero_le _, rfl, hmade, fun k h => by simp [Value.ownBlock] at h; omega, (Below.refl _ _).alloc (Nat.le_refl _) _⟩
  case round =>
    clear hmade
    obtain ⟨k, hkm, hk, rfl, ho, hnw, hbel⟩ := hrel
    have HNW := Lib.hid hnw
    clear hnw
    have hle := hbel.size
    have hol := mapF_le l k bytes
    obtain ⟨A1, cap1, rfl, _⟩ := ho.shape
    have HO := Lib.hid ho
    clear ho
    by_cases hlt : k < l.length
    · have hi : (k : Int) < (l.length : Int) := by omega
      have hi0 : (0 : Int) ≤ (k : Int) := by omega
      by_cases hlm : k < most
      · have hi2 : (k : Int) < (most : Int) := by omega
        obtain ⟨b, off, rfl, hbl, hc⟩ := HC.out (by rintro rfl; simp at hlt)
        obtain ⟨d0, d1⟩ := ff_cells (fun i u hu => (hbel.cell (p := ⟨b, off + k * 2 + i, none⟩) hbl).trans (hc k hlt i u hu))
        have hok := OK.out _ (List.getElem_mem hlt)
        have hst := map_step l bytes k hlt
        clear hc
        generalize l[k] = f at *
        obtain ⟨x, y⟩ := f
        obtain ⟨ok1, ok2⟩ := hok
        simp only at ok1 ok2 d0 d1 hst
        have hyx := xext_minr y bytes
        have hys := bs_size y
        have hox := ok1
        simp only [maxLen] at ok2
        have j1 : (0 : Int) ≤ min ((bs y).size : Int) (bytes : Int) := by omega
        have j2 : min ((bs y).size : Int) (bytes : Int) ≤ ((bs y).size : Int) := by omega
        have hy2 : (y.take bytes).length ≤ maxLen := by simp only [maxLen]; simp; omega
        generalize y.take bytes = z at *
        generalize Wr.mapF l k bytes = M at *
        have hb1 : Below wr.heap.size wr (wr.alloc (.cells #[.string (bs x), .string (bs z)] 58)) := (Below.refl _ _).alloc (Nat.le_refl _) _
        have HP := Lib.hid (putF_any _ M x z _ (HO.out.step hb1) (by omega) hox hy2)
        have HB1 := Lib.hid (below_via hbel hb1)
        have HB1s := hb1.size
        have HST := Lib.hid hst
        have HO1 := Lib.hid (HO.out.step hb1)
        clear hst hb1 ok1 hox hy2 hys
        go_wp2_with fail
        refine HP.out.mono ?_
        rintro e w3 ⟨o, rfl, ho, hnw, hb3⟩
        have HN3 := Lib.hid (fun k h => Nat.le_trans hle (Nat.le_trans HB1s (hnw k h)))
        clear hnw
        have hb4 := below_via HB1.out hb3
        by_cases he : putE M (x, z) = 0
        · have HS : Hid (Wr.mapF l (k + 1) bytes = putL M (x, z)) := Lib.hid (by rw [HST.out, if_pos he])
          rw [he]
          have HOO := Lib.hid ho
          clear ho he
          go_wp2_with fail
          go_roundw
          case rel => exact ⟨k + 1, by omega, by omega, by go_num, by rw [HS.out]; exact HOO.out, HN3.out, hb4⟩
          case measure => simp [RowKit.intOf]; omega
        · have HS : Hid (Wr.mapF l (k + 1) bytes = M) := Lib.hid (by rw [HST.out, if_neg he])
          have HO3 := Lib.hid (HO1.out.step hb3)
          generalize putE M (x, z) = pe at *
          have hpe : ((pe : Int) == 0) = false := by rw [beq_eq_false_iff_ne]; omega
          clear ho he
          go_wp2_with fail
          go_roundw
          case rel => exact ⟨k + 1, by omega, by omega, by go_num, by rw [HS.out]; exact HO3.out, HNW.out, hb4⟩
          case measure => simp [RowKit.intOf]; omega
      · obtain rfl : k = most := by omega
        have q1 : decide ((k : Int) < (k : Int)) = false := decide_eq_false (by omega)
        go_wp2_with fail
        go_ret
        exact ⟨_, rfl, HO.out, HNW.out, hbel⟩
    · have hi : (l.length : Int) ≤ (k : Int) := by omega
      have HE : Hid (Wr.mapF l most bytes = Wr.mapF l k bytes) := Lib.hid (by rw [map_end l bytes most (by omega)]; congr 1; omega)
      go_wp2_with fail
      go_ret
      exact ⟨_, rfl, by rw [HE.out]; exact HO.out, HNW.out, hbel⟩
end Go.Proofs.YtiogmegdkfnkkaaDoor
namespace Go.Proofs.YtiogmegdkfnkkaaDoor
open Go.Lib Tx

theorem right_up {l : List Wr.F} (h : Wr.Right l) : Up l := h.up
theorem mapF_up (l : List Wr.F) (n b : Nat) : Up (Wr.mapF l n b) := right_up (Wr.mapF_right l n b)
theorem dropF_up {l : List Wr.F} (h : Up l) (n : Bs) : Up (Wr.dropF l n) := List.Pairwise.sublist List.filter_sublist h
theorem find_drop (l : List Wr.F) (n x : Bs) : (Wr.dropF l n).find? (fun f => f.1 == x) = if x = n then none else l.find? (fun f => f.1 == x) := by
  unfold Wr.dropF
  induction l with
  | nil => simp
  | cons f l ih =>
    by_cases hf : f.1 = n
    · rw [List.filter_cons_of_neg (by simp [hf]), ih]
      split
      · rfl
      · next h => rw [List.find?_cons_of_neg (by rw [hf]; simpa using fun e => h e.symm)]
    · rw [List.filter_cons_of_pos (by simp [hf])]
      by_cases hx : f.1 = x
      · rw [List.find?_cons_of_pos (by simpa using hx), if_neg (by rw [← hx]; exact hf), List.find?_cons_of_pos (by simpa using hx)]
      · rw [List.find?_cons_of_neg (by simpa using hx), ih, List.find?_cons_of_neg (by simpa using hx)]
theorem getF_drop (l : List Wr.F) (n x : Bs) : Rc.getF (Wr.dropF l n) x = if x = n then ([], false) else Rc.getF l x := by
  unfold Rc.getF
  rw [find_drop]
  by_cases h : x = n
  · rw [if_pos h, if_pos h]
  · rw [if_neg h, if_neg h]
theorem find_ins (l : List Wr.F) (f : Wr.F) (x : Bs) (hn : ∀ g ∈ l, g.1 ≠ f.1) : (Wr.ins l f).find? (fun g => g.1 == x) = if x = f.1 then some f else l.find? (fun g => g.1 == x) := by
  have e : l.find? (fun g => g.1 == x) = ((l.takeWhile (fun g => Wr.less g.1 f.1)).find? (fun g => g.1 == x)).or ((l.dropWhile (fun g => Wr.less g.1 f.1)).find? (fun g => g.1 == x)) := by
    conv => lhs; rw [← List.takeWhile_append_dropWhile (p := fun g : Wr.F => Wr.less g.1 f.1) (l := l)]
    rw [List.find?_append]
  have e2 : (Wr.ins l f).find? (fun g => g.1 == x) = ((l.takeWhile (fun g => Wr.less g.1 f.1)).find? (fun g => g.1 == x)).or ((f :: l.dropWhile (fun g => Wr.less g.1 f.1)).find? (fun g => g.1 == x)) := by
    unfold Wr.ins
    rw [List.find?_append]
  rw [e2]
  split
  · next h =>
    have h0 : (l.takeWhile (fun g => Wr.less g.1 f.1)).find? (fun g => g.1 == x) = none := by
      rw [List.find?_eq_none]
      intro g hg
      have := hn g ((List.takeWhile_sublist _).subset hg)
      rw [h]
      simpa using this
    rw [h0, List.find?_cons_of_pos (by simpa using h.symm)]
    rfl
  · next h =>
    rw [List.find?_cons_of_neg (by simpa using fun e => h e.symm), ← e]
theorem putE_ok {l : List Wr.F} {f : Wr.F} (h : putE l f = 0) : putL l f = Wr.ins (Wr.dropF l f.1) f ∧ Wr.putF l f = .ok (putL l f) := by
  unfold putE at h
  unfold putL
  unfold Wr.putF at h ⊢
  by_cases h1 : Wr.nameOk f.1 = false
  · rw [if_pos h1] at h; cases h
  · rw [if_neg h1] at h ⊢
    by_cases h2 : 4000 < f.2.length ∨ ¬ (Wr.dropF l f.1).length < l.length ∧ 32 ≤ l.length
    · rw [if_pos h2] at h; cases h
    · rw [if_neg h2]
      exact ⟨rfl, rfl⟩
theorem getF_put {l : List Wr.F} {n t : Bs} (h : putE l (n, t) = 0) (x : Bs) : Rc.getF (putL l (n, t)) x = if x = n then (t, true) else Rc.getF l x := by
  unfold Rc.getF
  rw [(putE_ok h).1, find_ins _ _ _ (fun g hg => by
    have := (List.mem_filter.1 hg).2
    simpa using this), find_drop]
  by_cases h : x = n
  · rw [if_pos h, if_pos h]
  · rw [if_neg h, if_neg h, if_neg h]
theorem putL_up {l : List Wr.F} (h : Wr.Right l) (f : Wr.F) (he : putE l f = 0) : Up (putL l f) := right_up (Wr.putF_right l _ f h (putE_ok he).2)
theorem getF_is (l : List Wr.F) (n : Bs) : (Rc.getF l n).2 = l.any (fun f => f.1 == n) := by
  unfold Rc.getF
  cases h : l.find? (fun f => f.1 == n) with
  | none =>
    have := List.find?_eq_none.1 h
    symm
    rw [List.any_eq_false]
    exact this
  | some f =>
    symm
    rw [List.any_eq_true]
    exact ⟨f, List.mem_of_find?_eq_some h, by simpa using List.find?_some h⟩
theorem was_is (l : List Wr.F) (n : Bs) : decide ((Wr.dropF l n).length < l.length) = (Rc.getF l n).2 := by
  rw [getF_is]
  unfold Wr.dropF
  rw [Bool.eq_iff_iff, decide_eq_true_iff, List.length_filter_lt_length_iff_exists, List.any_eq_true]
  simp
/-- A file that is there tells its own text. -/
theorem getF_mem {l : List Wr.F} (h : Up l) {f : Wr.F} (hf : f ∈ l) : Rc.getF l f.1 = (f.2, true) := by
  unfold Rc.getF
  induction l with
  | nil => cases hf
  | cons a l ih =>
    obtain ⟨h1, h2⟩ := List.pairwise_cons.1 h
    rcases List.mem_cons.1 hf with rfl | hf
    · rw [List.find?_cons_of_pos (by simp)]
    · have hne : a.1 ≠ f.1 := fun e => by
        have := h1 f hf
        rw [e, Wr.less_self] at this
        cases this
      rw [List.find?_cons_of_neg (by simpa using hne)]
      exact ih h2 hf
/-- The names that were looked at. -/
theorem lookTo_mem (m : List Wr.F) (ns : List Bs) (k : Nat) (hk : k ≤ ns.length) (r : Rc.Seen) (h : r ∈ Rc.lookTo m ns k) : ∃ n ∈ ns, r = Rc.seenOf m n := by
  induction k with
  | zero => simp [Rc.lookTo] at h
  | succ k ih =>
    rw [Rc.lookTo_at m ns k (by omega)] at h
    rcases List.mem_append.1 h with h | h
    · exact ih (by omega) h
    · split at h
      · simp at h
      · simp at h; exact ⟨_, List.getElem_mem _, h⟩
theorem lookTo_has (m : List Wr.F) (ns : List Bs) (k : Nat) (hk : k ≤ ns.length) : ∀ (j : Nat) (hj : j < k), ∃ r ∈ Rc.lookTo m ns k, r.1 = ns[j] := by
  induction k with
  | zero => intro j hj; omega
  | succ k ih =>
    intro j hj
    rw [Rc.lookTo_at m ns k (by omega)]
    by_cases hjk : j < k
    · obtain ⟨r, hr, e⟩ := ih (by omega) j hjk
      exact ⟨r, List.mem_append_left _ hr, e⟩
    · obtain rfl : j = k := by omega
      cases hq : (ns.take j).any (fun m => m == ns[j]) with
      | true =>
        rw [List.any_eq_true] at hq
        obtain ⟨n, hn, he⟩ := hq
        obtain ⟨i, hi, rfl⟩ := List.mem_take_iff_getElem.1 hn
        obtain ⟨r, hr, e⟩ := ih (by omega) i (by omega)
        exact ⟨r, List.mem_append_left _ hr, by rw [e]; simpa using he⟩
      | false => exact ⟨Rc.seenOf m ns[j], List.mem_append_right _ (by simp), rfl⟩
/-- The record of RecordFresh. -/
def frR (m : List Wr.F) (ns : List Bs) : Rc.Rec := ([114], Rc.look m ns, m.take (m.length / 2))
def has (ns : List Bs) (x : Bs) : Bool := ns.any fun n => n == x
def wrote (m : List Wr.F) (x : Bs) : Bool := (m.take (m.length / 2)).any fun f => f.1 == x
/-- The record over a map that tells the same but of one name. -/
theorem fresh_other (m d : List Wr.F) (ns : List Bs) (x : Bs) (g : Bs × Bool) (hu : Up m) (hd : ∀ y, Rc.getF d y = if y = x then g else Rc.getF m y) :
    Rc.fresh (frR m ns) d = ((!(has ns x) || decide (Rc.getF m x = g)) && (!(wrote m x) || decide (g = Rc.getF m x))) := by
  unfold Rc.fresh frR
  congr 1
  · cases hh : has ns x with
    | false =>
      simp only [Bool.not_false, Bool.true_or]
      rw [List.all_eq_true]
      intro r hr
      obtain ⟨n, hn, rfl⟩ := lookTo_mem m ns _ (Nat.le_refl _) r hr
      have hne : n ≠ x := fun e => by
        have := List.any_eq_false.1 hh n hn
        exact this (by simpa using e)
      show Rc.freshS d _ = true
      unfold Rc.freshS Rc.seenOf
      simp only [hd, if_neg hne]
      simp
    | true =>
      simp only [Bool.not_true, Bool.false_or]
      by_cases hg : Rc.getF m x = g
      · rw [decide_eq_true hg, List.all_eq_true]
        intro r hr
        obtain ⟨n, hn, rfl⟩ := lookTo_mem m ns _ (Nat.le_refl _) r hr
        show Rc.freshS d _ = true
        unfold Rc.freshS Rc.seenOf
        have e : Rc.getF d n = Rc.getF m n := by
          rw [hd]
          split
          · next h => rw [h, hg]
          · rfl
        simp only [e]
        simp
      · rw [decide_eq_false hg, List.all_eq_false]
        obtain ⟨n, hn, he⟩ := List.any_eq_true.1 hh
        obtain ⟨j, hj, rfl⟩ := List.getElem_of_mem hn
        obtain ⟨r, hr, e⟩ := lookTo_has m ns _ (Nat.le_refl _) j hj
        refine ⟨r, hr, ?_⟩
        obtain ⟨n', hn', rfl⟩ := lookTo_mem m ns _ (Nat.le_refl _) r hr
        have hx : n' = x := by
          have : n' = ns[j] := e
          rw [this]
          simpa using he
        show ¬ Rc.freshS d _ = true
        unfold Rc.freshS Rc.seenOf
        simp only [hd, if_pos hx]
        rw [hx]
        intro h
        apply hg
        simp only [Bool.and_eq_true, beq_iff_eq] at h
        exact Prod.ext h.2 h.1
  · cases hh : wrote m x with
    | false =>
      simp only [Bool.not_false, Bool.true_or]
      rw [List.all_eq_true]
      intro f hf
      have hne : f.1 ≠ x := fun e => by
        have := List.any_eq_false.1 hh f hf
        exact this (by simpa using e)
      show Rc.freshW d f = true
      unfold Rc.freshW
      rw [hd, if_neg hne, getF_mem hu (List.mem_of_mem_take hf)]
      simp
    | true =>
      simp only [Bool.not_true, Bool.false_or]
      by_cases hg : g = Rc.getF m x
      · rw [decide_eq_true hg, List.all_eq_true]
        intro f hf
        show Rc.freshW d f = true
        unfold Rc.freshW
        have e : Rc.getF d f.1 = Rc.getF m f.1 := by
          rw [hd]
          split
          · next h => rw [h, hg]
          · rfl
        rw [e, getF_mem hu (List.mem_of_mem_take hf)]
        simp
      · rw [decide_eq_false hg, List.all_eq_false]
        obtain ⟨f, hf, he⟩ := List.any_eq_true.1 hh
        have hx : f.1 = x := by simpa using he
        refine ⟨f, hf, ?_⟩
        show ¬ Rc.freshW d f = true
        unfold Rc.freshW
        rw [hd, if_pos hx]
        intro h
        apply hg
        have hm := getF_mem hu (List.mem_of_mem_take hf)
        rw [hx] at hm
        rw [hm]
        simp only [Bool.and_eq_true, beq_iff_eq] at h
        exact Prod.ext h.2.symm h.1
theorem fresh_now (m : List Wr.F) (ns : List Bs) (hu : Up m) : Rc.fresh (frR m ns) m = true := by
  rw [fresh_other m m ns [] (Rc.getF m []) hu (fun y => by split <;> simp_all)]
  simp
theorem getF_no {m : List Wr.F} {x : Bs} (h : (Rc.getF m x).2 = false) : Rc.getF m x = ([], false) := by
  unfold Rc.getF at *
  split at h
  · cases h
  · rfl
theorem wrote_is {m : List Wr.F} {x : Bs} (h : wrote m x = true) : (Rc.getF m x).2 = true := by
  rw [getF_is]
  obtain ⟨f, hf, he⟩ := List.any_eq_true.1 h
  exact List.any_eq_true.2 ⟨f, List.mem_of_mem_take hf, he⟩
theorem fresh_drop (m : List Wr.F) (ns : List Bs) (x : Bs) (hu : Up m) : Rc.fresh (frR m ns) (Wr.dropF m x) = (!(Rc.getF m x).2 || (!(has ns x) && !(wrote m x))) := by
  rw [fresh_other m _ ns x ([], false) hu (getF_drop m x)]
  cases hg : (Rc.getF m x).2 with
  | false =>
    rw [getF_no hg]
    simp
  | true =>
    have h1 : ¬ Rc.getF m x = ([], false) := fun e => by rw [e] at hg; cases hg
    have h2 : ¬ ([], false) = Rc.getF m x := fun e => h1 e.symm
    rw [decide_eq_false h1, decide_eq_false h2]
    cases has ns x <;> cases wrote m x <;> rfl
theorem fresh_put (m : List Wr.F) (ns : List Bs) (x t : Bs) (hu : Up m) (h : putE m (x, t) = 0) : Rc.fresh (frR m ns) (putL m (x, t)) = (((Rc.getF m x).2 && (Rc.getF m x).1 == t) || (!(has ns x) && !(wrote m x))) := by
  rw [fresh_other m _ ns x (t, true) hu (getF_put h)]
  by_cases hg : Rc.getF m x = (t, true)
  · rw [decide_eq_true hg, decide_eq_true hg.symm, hg]
    simp
  · have h2 : ¬ (t, true) = Rc.getF m x := fun e => hg e.symm
    rw [decide_eq_false hg, decide_eq_false h2]
    have h3 : ((Rc.getF m x).2 && (Rc.getF m x).1 == t) = false := by
      cases hb : (Rc.getF m x).2 with
      | false => rfl
      | true =>
        rw [Bool.true_and, beq_eq_false_iff_ne]
        intro e
        exact hg (Prod.ext e hb)
    rw [h3]
    cases has ns x <;> cases wrote m x <;> rfl
end Go.Proofs.YtiogmegdkfnkkaaDoor
namespace Go.Proofs.YtiogmegdkfnkkaaDoor
open Go.RowKit Tx

theorem step_text {w : World} {ops : Array Oper} {o : Oper} {a : Act} {K : Act → World → Prop} {Q : Exit → Act → World → Prop} {E : Prop} (hgd : o.guard = none) (s x : Operand)
    (ho : o.op = .call { callee := .builtin .append, args := #[s, x], argTypes := #[24, 24] })
    (base : Nat) (v : Value) (l : List Bs) (u : Bs) (hs : a.eval s = v) (g : Nat) (hx : a.eval x = .slice (some ⟨g, 0, none⟩) 1 1)
    (hg : w.heap[g]? = some (.cells #[.string (bs u)] 9 (0, 0)))
    (hown : Txs base w v l) (hb : base ≤ w.heap.size) (hl : l.length < 1000000)
    (h : ∀ v' w', Txs base w' v' (l ++ [u]) → Below base w w' → K (a.put o.dst v') w') :
    if Region.wanted o (yielded ops a.tmps) = true then Oper.wp Tryd.prog o a w K Q else E := by
  obtain ⟨i0, hi0, hz0, hz1, hz2⟩ := info_parts strInfo
  refine step_appN hgd s x 24 ho base 9 i0 _ 1 16 Tryd.underlying24 hi0 hz0 hz1 hz2 rfl (by decide) v l.length (l.map vs) [vs u] rfl (by simp [Value.oneCell']) hs g hx hg hown hb (by simp only [maxLen]; omega) (by omega) ?_
  intro v' w' h1 h2
  refine h v' w' (by simpa [Txs] using h1) ((Below.refl _ _).grown h2 hb (fun k hk => (World.ownsRow.lt hown k hk).1))
theorem take_map_at {α β : Type} (f : α → β) (l : List α) (k : Nat) (h : k < l.length) : (l.take (k + 1)).map f = (l.take k).map f ++ [f l[k]] := by
  rw [List.take_succ_eq_append_getElem h, List.map_append]; rfl
end Go.Proofs.YtiogmegdkfnkkaaDoor
