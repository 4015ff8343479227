/- '==' of structs: the fields compared one by one. · '==' of files. · s[:min(len(s), z)]. · The reference's Drop, Put, Map. · A row of files' clone; (*Store).Load. · wire.Parse, with where its row lies. · store.Open. -/
import Derived.Test.YtkoegbjnhoecoaaGreatDoorRows
import Derived.Test.YtkoegbjnhoecoaaGreatDoorH1
import Derived.Laws.StructEq
import Derived.Test.YtkoegbjnhoecoaaGreatDoorH3
import Derived.Test.YtkoegbjnhoecoaaGreatDoorH2
import Derived.Test.YtkoegbjnhoecoaaGreatDoorH5
import Derived.Test.YtkoegbjnhoecoaaGreatDoorH4
namespace Go.Proofs.YtkoegbjnhoecoaaGreatDoor
open Go.RowKit

/-- Fields compared one by one. -/
def FieldsEq (d : Nat) (xs ys : Array Value) : List Field → List Bool → Prop
  | [], [] => True
  | f :: fs, e :: es => f.name ≠ "_" ∧ (∃ a b, (∀ w, (part f.type xs f.offset).run Tryz.prog w = .ok a w) ∧ (∀ w, (part f.type ys f.offset).run Tryz.prog w = .ok b w) ∧ ∀ w, (Op.equalIn d f.type a b).run Tryz.prog w = .ok e w) ∧ FieldsEq d xs ys fs es
  | _, _ => False
theorem eqFields_run (d : Nat) (xs ys : Array Value) (w : World) : ∀ (fs : List Field) (es : List Bool), FieldsEq d xs ys fs es → (Op.eqFields d xs ys fs).run Tryz.prog w = .ok (es.all id) w := by
  intro fs
  induction fs with
  | nil =>
    intro es h
    cases es with
    | nil => simp [Op.eqFields]
    | cons e es => exact absurd h (by simp [FieldsEq])
  | cons f fs ih =>
    intro es h
    cases es with
    | nil => exact absurd h (by simp [FieldsEq])
    | cons e es =>
      obtain ⟨h1, ⟨a, b, h2, h3, h4⟩, h5⟩ := h
      have hr := ih es h5
      cases e with
      | true => simp [Op.eqFields, h1, h2, h3, h4, hr]
      | false => simp [Op.eqFields, h1, h2, h3, h4]
theorem run_part1 (t : TypeId) (xs : Array Value) (o : Nat) (v : Value) (hs : Tryz.prog.underlying t = some .string) (h : xs[o]? = some v) (w : World) : (part t xs o).run Tryz.prog w = .ok v w := by
  simp [part, isAgg, run_underlying hs, h]
end Go.Proofs.YtkoegbjnhoecoaaGreatDoor
namespace Go.Proofs.YtkoegbjnhoecoaaGreatDoor
open Go.RowKit Tx

theorem fUnder : Tryz.prog.underlying 29 = some (.struct (Tryz.prog.fieldsOf 29)) := by kernel_rfl
theorem fStood : Tryz.prog.stoodInHeld 29 = false := by kernel_rfl
theorem fGuard : Tryz.prog.eqGuardType Tryz.prog.depth 29 = false := by kernel_rfl
theorem fFields : (Tryz.prog.fieldsOf 29).toList.map (fun f => (f.name == "_", f.type, f.offset)) = [(false, 9, 0), (false, 9, 1)] := by kernel_rfl
def eqF (p q : Wr.F) : Bool := p.1 == q.1 && p.2 == q.2
theorem eqF_self (p : Wr.F) : eqF p p = true := by simp [eqF]
theorem eqF_ne (p q : Wr.F) (h : p ≠ q) : eqF p q = false := by
  cases hc : eqF p q with
  | false => rfl
  | true =>
    simp only [eqF, Bool.and_eq_true, beq_iff_eq] at hc
    exact absurd (Prod.ext hc.1 hc.2) h
set_option maxRecDepth 100000 in
theorem eq_file (p q : Wr.F) (w : World) : (binOp .eql 29 (.agg #[.string (bs p.1), .string (bs p.2)]) (.agg #[.string (bs q.1), .string (bs q.2)])).run Tryz.prog w = .ok (.bool (eqF p q)) w := by
  rw [run_eql_struct, run_equalIn_struct w _ _ _ _ fUnder fStood]
  have h := fFields
  generalize (Tryz.prog.fieldsOf 29).toList = fs at *
  have key : FieldsEq 9999 #[.string (bs p.1), .string (bs p.2)] #[.string (bs q.1), .string (bs q.2)] fs [p.1 == q.1, p.2 == q.2] := by
    rcases fs with _ | ⟨a, _ | ⟨b, _ | ⟨c, r⟩⟩⟩
    all_goals simp only [List.map_cons, List.map_nil, List.cons.injEq, Prod.mk.injEq, and_true, reduceCtorEq, and_false] at h
    obtain ⟨⟨a1, a2, a3⟩, ⟨b1, b2, b3⟩⟩ := h
    simp only [beq_eq_false_iff_ne] at a1 b1
    have st : ∀ (x y : Bs) w, (Op.equalIn 9999 9 (.string (bs x)) (.string (bs y))).run Tryz.prog w = .ok (x == y) w := fun x y w => by
      rw [run_equalIn_string w 9998 _ _ _ Tryz.underlying9, toListB, toListB]
    refine ⟨a1, ⟨.string (bs p.1), .string (bs q.1), ?_, ?_, ?_⟩, b1, ⟨.string (bs p.2), .string (bs q.2), ?_, ?_, ?_⟩, trivial⟩
    all_goals (try rw [a2]); (try rw [a3]); (try rw [b2]); (try rw [b3])
    all_goals (first | exact st _ _ | exact run_part1 _ _ _ _ Tryz.underlying9 rfl)
  rw [eqFields_run _ _ _ _ _ _ key]
  simp [eqF]
set_option maxRecDepth 100000 in
theorem eqAtF (p q : Wr.F) (w : World) : (Op.equalIn 10000 29 (.agg #[.string (bs p.1), .string (bs p.2)]) (.agg #[.string (bs q.1), .string (bs q.2)])).run Tryz.prog w = .ok (eqF p q) w := by
  have h := eq_file p q w
  rw [run_eql_struct] at h
  generalize hr : (Op.equalIn 10000 29 (.agg #[.string (bs p.1), .string (bs p.2)]) (.agg #[.string (bs q.1), .string (bs q.2)])).run Tryz.prog w = r at *
  cases r with
  | ok x w2 => simp only [Result.andThen_ok] at h; injection h with h3 h4; injection h3 with h5; rw [h4, h5]
  | halt x w2 => simp [Result.andThen] at h

end Go.Proofs.YtkoegbjnhoecoaaGreatDoor
namespace Go.Proofs.YtkoegbjnhoecoaaGreatDoor
open Go.RowKit Tx
theorem xext_minr (x : Bs) (z : Nat) : (bs x).extract 0 (min ((bs x).size : Int) (z : Int)).toNat = bs (x.take z) := by
  rw [bs_extract']
  congr 1
  rw [List.drop_zero, bs_size]
  by_cases h : x.length ≤ z
  · rw [show (min (x.length : Int) (z : Int)).toNat = x.length by omega, List.take_length, List.take_of_length_le h]
  · rw [show (min (x.length : Int) (z : Int)).toNat = z by omega]
end Go.Proofs.YtkoegbjnhoecoaaGreatDoor
namespace Go.Proofs.YtkoegbjnhoecoaaGreatDoor
open Go.RowKit Tx

theorem drop_step (l : List Wr.F) (n : Wr.Bs) (k : Nat) (h : k < l.length) : Wr.dropF (l.take (k + 1)) n = Wr.dropF (l.take k) n ++ if l[k].1 == n then [] else [l[k]] := by
  unfold Wr.dropF
  rw [List.take_succ_eq_append_getElem h, List.filter_append]
  congr 1
  cases hc : l[k].1 == n <;> simp [hc]
theorem dropF_le (l : List Wr.F) (n : Wr.Bs) : (Wr.dropF l n).length ≤ l.length := List.length_filter_le _ _
/-- A slice value that is not nil. -/
def Som (v : Value) (n : Nat) : Prop := ∃ g cap, v = .slice (some ⟨g, 0, none⟩) n cap
theorem OwnC.som {base : Nat} {w : World} {v : Value} {l : List Wr.F} (h : OwnC 29 2 ff base w v l) (hne : l ≠ []) : Som v l.length := by
  obtain ⟨g, cap, rfl, _⟩ := h.shape ff_length hne
  exact ⟨g, cap, rfl⟩

set_option maxRecDepth 100000 in
set_option maxHeartbeats 4000000 in
theorem drop_any (v : Value) (l : List Wr.F) (n : Bs) (w : World) (hr : RowC 2 ff w w.heap.size v l) (hl : l.length < 1000000) :
    Calls Tryz.prog 52 #[v, vs n] w fun e w' => ∃ o, e = .returned (.tuple #[o, .bool (decide ((Wr.dropF l n).length < l.length))]) ∧ OwnC 29 2 ff w.heap.size w' o (Wr.dropF l n) ∧ Som o (Wr.dropF l n).length ∧ Below w.heap.size w w' := by
  obtain ⟨A, cap, rfl, h1, h2, h3⟩ := hr.shape
  have HC := Lib.hid h3
  clear h3 hr
  have hmade := OwnC.made 29 2 ff w.heap.size w (Nat.le_refl _)
  go_enter Tryz.func52, Tryz.ntmps52
  go_wp2_with fail
  go_loopw [6, 7] (fun o i wr => ∃ k : Nat, k ≤ l.length ∧ i = .int .i64 k ∧ OwnC 29 2 ff w.heap.size wr o (Wr.dropF (l.take k) n) ∧ Som o (Wr.dropF (l.take k) n).length ∧ Below w.heap.size w wr) (fun _ i _ => l.length - (RowKit.intOf i).toNat)
  case atStart => exact ⟨0, Nat.zero_le _, rfl, hmade, ⟨_, _, rfl⟩, (Below.refl _ _).alloc (Nat.le_refl _) _⟩
  case round =>
    clear hmade
    obtain ⟨k, hk, rfl, ho, hsom, hbel⟩ := hrel
    have hle := hbel.size
    by_cases hlt : k < l.length
    · have hi : (k : Int) < (l.length : Int) := by omega
      have hi0 : (0 : Int) ≤ (k : Int) := by omega
      obtain ⟨b, off, rfl, hbl, hc⟩ := HC.out (by rintro rfl; simp at hlt)
      obtain ⟨c0, c1⟩ := ff_cells (fun i u hu => (hbel.cell (p := ⟨b, off + k * 2 + i, none⟩) hbl).trans (hc k hlt i u hu))
      have hst := drop_step l n k hlt
      have hol : (Wr.dropF (l.take k) n).length ≤ k := Nat.le_trans (dropF_le _ _) (by simp; omega)
      clear hc
      generalize l[k] = f at *
      obtain ⟨x, y⟩ := f
      simp only at c0 c1 hst
      have HO := Lib.hid ho
      clear ho
      by_cases hxn : x = n
      · subst hxn
        have HS : Hid (Wr.dropF (l.take (k + 1)) x = Wr.dropF (l.take k) x) := Lib.hid (by rw [hst]; simp)
        have HSM := Lib.hid hsom
        clear hst hsom
        go_wp2_with fail
        go_roundw
        case rel => exact ⟨k + 1, by omega, by go_num, by rw [HS.out]; exact HO.out, by rw [HS.out]; exact HSM.out, hbel⟩
        case measure => simp [RowKit.intOf]; omega
      · have HS : Hid (Wr.dropF (l.take (k + 1)) n = Wr.dropF (l.take k) n ++ [(x, y)]) := Lib.hid (by rw [hst]; simp [hxn])
        have e1 : ((bs x).toList == (bs n).toList) = false := by rw [toListB, toListB]; simpa using hxn
        have e2 : ((bs x).toList != (bs n).toList) = true := by rw [bne, e1]; rfl
        clear hst hsom hxn
        go_wp2_with (at_builtin; refine app_file rfl (.tmp 22) (.tmp 27) rfl w.heap.size _ (Wr.dropF (l.take k) n) (x, y) rfl wr.heap.size rfl rfl HO.out hle (by omega) ?_; intro v' w4 h8 h9 h10)
        go_roundw
        case rel => exact ⟨k + 1, by omega, by go_num, by rw [HS.out]; exact h8, by rw [HS.out]; exact h8.som (by simp), hbel.trans h9⟩
        case measure => simp [RowKit.intOf]; omega
    · obtain rfl : k = l.length := by omega
      rw [List.take_length] at ho hsom
      have HO := Lib.hid ho
      obtain ⟨g, c, rfl⟩ := hsom
      clear ho
      have HDD : Hid (decide (((Wr.dropF l n).length : Int) < (l.length : Int)) = decide ((Wr.dropF l n).length < l.length)) := Lib.hid (by
        rw [decide_eq_decide]; omega)
      go_wp2_with fail
      go_ret2
      exact ⟨.slice (some ⟨g, 0, none⟩) (Wr.dropF l n).length c, by rw [← HDD.out]; rfl, HO.out, ⟨g, c, rfl⟩, hbel⟩

theorem row_news {w : World} {B b off len cap : Nat} {D : List Wr.F} (h : RowC 2 ff w B (.slice (some ⟨b, off, none⟩) len cap) D) (k : Nat) (hk : k < D.length) :
    ∀ j u, ((D.drop k).flatMap ff)[j]? = some u → w.cell? ((⟨b, off + k * 2, none⟩ : Addr).add j) = some u := by
  intro j u hj
  obtain ⟨A, c, e, _, _, h3⟩ := h.shape
  injection e with e1 e2 e3
  obtain ⟨b', off', e4, _, hc⟩ := h3 (by rintro rfl; simp at hk)
  rw [← e1] at e4
  injection e4 with e4
  injection e4 with e5 e6
  subst e5 e6
  have hjl : j < (D.drop k).length * 2 := by
    have := (List.getElem?_eq_some_iff.1 hj).1
    rwa [flat_length ff_length] at this
  have h1 : j / 2 < (D.drop k).length := by omega
  have h2 := flat_at ff_length (D.drop k) (j / 2) (j % 2) h1 (by omega)
  rw [show j / 2 * 2 + j % 2 = j by omega, hj] at h2
  rw [List.getElem_drop] at h2
  have h4 := hc (k + j / 2) (by simp at h1; omega) (j % 2) u h2.symm
  rw [Addr.add_lit]
  rw [show off + k * 2 + j = off + (k + j / 2) * 2 + j % 2 by omega]
  exact h4

def putE (l : List Wr.F) (f : Wr.F) : Nat := match Wr.putF l f with | .ok _ => 0 | .error e => e
def putL (l : List Wr.F) (f : Wr.F) : List Wr.F := match Wr.putF l f with | .ok m => m | .error _ => []
theorem tw_step (D : List Wr.F) (n : Wr.Bs) (k : Nat) (hk : k < D.length) (h1 : ∀ j, ∀ h : j < D.length, j < k → Wr.less D[j].1 n = true) (h2 : Wr.less D[k].1 n = false) :
    D.take k = D.takeWhile (fun g => Wr.less g.1 n) ∧ D.drop k = D.dropWhile (fun g => Wr.less g.1 n) := by
  induction D generalizing k with
  | nil => simp at hk
  | cons a D ih =>
    cases k with
    | zero => simp at h2; simp [h2]
    | succ k =>
      have ha := h1 0 (by simp) (by omega)
      simp at ha
      have := ih k (by simpa using hk) (fun j h hj => by have := h1 (j + 1) (by simp; omega) (by omega); simpa using this) (by simpa using h2)
      simp [ha, this]
theorem tw_end (D : List Wr.F) (n : Wr.Bs) (h1 : ∀ j, ∀ h : j < D.length, Wr.less D[j].1 n = true) :
    D.take D.length = D.takeWhile (fun g => Wr.less g.1 n) ∧ D.drop D.length = D.dropWhile (fun g => Wr.less g.1 n) := by
  induction D with
  | nil => simp
  | cons a D ih =>
    have ha := h1 0 (by simp)
    simp at ha
    have := ih (fun j h => by have := h1 (j + 1) (by simp; omega); simpa using this)
    simp at this
    simp [ha]
    exact ⟨this.1, this.2⟩

set_option maxRecDepth 100000 in
set_option maxHeartbeats 4000000 in
theorem putF_any (v : Value) (l : List Wr.F) (n t : Bs) (w : World) (hr : RowC 2 ff w w.heap.size v l) (hl : l.length < 100000) (hn : n.length ≤ maxLen) (ht : t.length ≤ maxLen) :
    Calls Tryz.prog 36 #[v, .agg #[vs n, vs t]] w fun e w' => ∃ o, e = .returned (.tuple #[o, .int .i64 (putE l (n, t))]) ∧ RowC 2 ff w' w'.heap.size o (putL l (n, t)) ∧ (∀ k, o.ownBlock = some k → w.heap.size ≤ k) ∧ Below w.heap.size w w' := by
  obtain ⟨A, cap, rfl, c1, c2, c3⟩ := hr.shape
  have hm1 := hn
  have hzt := bs_size t
  simp only [maxLen] at hn ht
  by_cases hnm : Wr.nameOk n = true
  case neg =>
    have hnm : Wr.nameOk n = false := by simpa using hnm
    have HE : Hid (putE l (n, t) = 2 ∧ putL l (n, t) = []) := Lib.hid (by unfold putE putL Wr.putF; rw [if_pos hnm]; exact ⟨rfl, rfl⟩)
    have HN := Lib.hid (fun w => rName_b n w hm1 hnm)
    clear hr c3 hnm
    go_enter Tryz.func36, Tryz.ntmps36
    go_wp2_with fail
    refine (HN.out _).mono ?_
    rintro e w1 ⟨rfl, rfl⟩
    go_wp2_with fail
    go_ret2
    exact ⟨.slice none 0 0, by rw [HE.out.1]; rfl, by rw [HE.out.2]; exact row_none _ _, (fun k h => by cases h), (Below.refl _ _).alloc (Nat.le_refl _) _⟩
  case pos =>
    have HN := Lib.hid (fun w => rName_b n w hm1 hnm)
    have hb1 : Below w.heap.size w (w.alloc (.cells #[.string (bs n), .string (bs t)] 29)) := (Below.refl _ _).alloc (Nat.le_refl _) _
    obtain ⟨d0, d1⟩ := box_cells (w := w) (x := n) (y := t)
    have HRL := Lib.hid (hr.step hb1)
    have HNM := Lib.hid hnm
    clear hr c3 hnm
    obtain ⟨g0, hg0⟩ : ∃ g, g = w.heap.size := ⟨_, rfl⟩
    go_enter Tryz.func36, Tryz.ntmps36
    rw [← hg0] at d0 d1
    have HG0 := Lib.hid hg0
    go_wp2_with fail
    rw [← hg0]
    clear hg0
    generalize hwb : w.alloc (.cells #[.string (bs n), .string (bs t)] 29) = wb at *
    clear hwb
    refine (HN.out _).mono ?_
    rintro e w1 ⟨rfl, rfl⟩
    go_wp2_with fail
    refine (drop_any _ l n wb HRL.out (by omega)).mono ?_
    rintro e w2 ⟨o, rfl, ho, ⟨g, c, rfl⟩, hb2⟩
    have hle2 := hb2.size
    have hg0l : g0 < wb.heap.size := World.block_lt_of_cell? wb ⟨g0, 0, none⟩ (by rw [d0])
    have e0 := (hb2.cell (p := ⟨g0, 0, none⟩) hg0l).trans d0
    have e1 := (hb2.cell (p := ⟨g0, 1, none⟩) hg0l).trans d1
    have hgl2 : g0 < w2.heap.size := Nat.lt_of_lt_of_le hg0l hle2
    have HB2 := Lib.hid (below_via hb1 hb2)
    have hdl := dropF_le l n
    have HPF : Hid (Wr.putF l (n, t) = if 4000 < t.length ∨ (¬ (Wr.dropF l n).length < l.length ∧ 32 ≤ l.length) then .error 3 else .ok (Wr.ins (Wr.dropF l n) (n, t))) := Lib.hid (by
      unfold Wr.putF
      rw [if_neg (by simpa using HNM.out)])
    have HD := Lib.hid (ho.rowC ff_length)
    clear ho hb1 hb2 d0 d1 HN HRL HNM
    generalize Wr.dropF l n = D at *
    obtain ⟨BC, hBC⟩ : ∃ BC : Bool, BC = decide (4000 < t.length ∨ (¬ D.length < l.length ∧ 32 ≤ l.length)) := ⟨_, rfl⟩
    have HBC := Lib.hid hBC
    clear hBC
    go_upto_region 4 with fail
    go_cut [34] (fun b wx => b = .bool BC ∧ wx = w2)
    case first =>
      by_cases h1 : 4000 < t.length
      · have HT : Hid (BC = true) := Lib.hid (by rw [HBC.out]; exact decide_eq_true (.inl h1))
        have q1 : decide ((4000 : Int) < ((bs t).size : Int)) = true := decide_eq_true (by omega)
        have q2 : decide ((4000 : Int) < (t.length : Int)) = true := decide_eq_true (by omega)
        have q3 : decide (4000 < t.length) = true := decide_eq_true h1
        go_wp2_with fail
        go_meet
        exact ⟨by rw [HT.out], rfl⟩
      · have q1 : decide ((4000 : Int) < ((bs t).size : Int)) = false := decide_eq_false (by omega)
        have q2 : decide ((4000 : Int) < (t.length : Int)) = false := decide_eq_false (by omega)
        have q3 : decide (4000 < t.length) = false := decide_eq_false h1
        by_cases h2 : D.length < l.length
        · have HT : Hid (BC = false) := Lib.hid (by rw [HBC.out]; exact decide_eq_false (by omega))
          have r1 : decide (D.length < l.length) = true := decide_eq_true h2
          go_wp2_with fail
          go_meet
          exact ⟨by rw [HT.out], rfl⟩
        · have r1 : decide (D.length < l.length) = false := decide_eq_false h2
          by_cases h3 : 32 ≤ l.length
          · have HT : Hid (BC = true) := Lib.hid (by rw [HBC.out]; exact decide_eq_true (by omega))
            have s1 : decide ((32 : Int) ≤ (l.length : Int)) = true := decide_eq_true (by omega)
            have s2 : decide (32 ≤ l.length) = true := decide_eq_true h3
            go_wp2_with fail
            go_meet
            exact ⟨by rw [HT.out], rfl⟩
          · have HT : Hid (BC = false) := Lib.hid (by rw [HBC.out]; exact decide_eq_false (by omega))
            have s1 : decide ((32 : Int) ≤ (l.length : Int)) = false := decide_eq_false (by omega)
            have s2 : decide (32 ≤ l.length) = false := decide_eq_false h3
            go_wp2_with fail
            go_meet
            exact ⟨by rw [HT.out], rfl⟩
    case rest =>
      obtain ⟨rfl, hcw⟩ := hcut
      have hcw' := hcw.symm
      subst hcw'
      clear hcw
      cases BC with
      | true =>
        have hbc := of_decide_eq_true HBC.out.symm
        have HE : Hid (putE l (n, t) = 3 ∧ putL l (n, t) = []) := Lib.hid (by unfold putE putL; rw [HPF.out, if_pos hbc]; exact ⟨rfl, rfl⟩)
        clear hbc
        go_wp2_with fail
        go_ret2
        exact ⟨.slice none 0 0, by rw [HE.out.1]; rfl, by rw [HE.out.2]; exact row_none _ _, (fun k h => by cases h), HB2.out⟩
      | false =>
        have hbc := of_decide_eq_false HBC.out.symm
        have HE : Hid (putE l (n, t) = 0 ∧ putL l (n, t) = Wr.ins D (n, t)) := Lib.hid (by unfold putE putL; rw [HPF.out, if_neg hbc]; exact ⟨rfl, rfl⟩)
        clear hbc HPF HBC
        obtain ⟨A', c', hsh, m1, m2, m3⟩ := HD.out.shape
        injection hsh with hsh1 hsh2 hsh3
        subst hsh1 hsh3
        have HDC := Lib.hid m3
        have hmade := OwnC.made 29 2 ff w2.heap.size w2 (Nat.le_refl _)
        have E0 := Lib.hid e0
        have E1 := Lib.hid e1
        clear m3 hsh2
        obtain ⟨B2, hB2⟩ : ∃ B, B = w2.heap.size := ⟨_, rfl⟩
        go_upto_block 0 with fail
        go_cut [8] (fun o wx => ∃ k, k ≤ D.length ∧ D.take k = D.takeWhile (fun g => Wr.less g.1 n) ∧ D.drop k = D.dropWhile (fun g => Wr.less g.1 n) ∧ OwnC 29 2 ff w2.heap.size wx o (D.take k) ∧ Som o k ∧ Below w2.heap.size w2 wx)
        case first =>
          go_wp2_with fail
          go_loopw [8, 9] (fun o i wr => ∃ k : Nat, k ≤ D.length ∧ i = .int .i64 k ∧ (∀ j, ∀ h : j < D.length, j < k → Wr.less D[j].1 n = true) ∧ OwnC 29 2 ff w2.heap.size wr o (D.take k) ∧ Som o k ∧ Below w2.heap.size w2 wr) (fun _ i _ => D.length - (RowKit.intOf i).toNat)
          case atStart => exact ⟨0, Nat.zero_le _, rfl, fun j h hj => absurd hj (Nat.not_lt_zero _), hmade, ⟨_, _, rfl⟩, (Below.refl _ _).alloc (Nat.le_refl _) _⟩
          case round =>
            clear hmade
            obtain ⟨k, hk, rfl, hls, ho, hsom, hbel⟩ := hrel
            have hle := hbel.size
            have f0 := (hbel.cell (p := ⟨g0, 0, none⟩) hgl2).trans E0.out
            have HLS := Lib.hid hls
            have HO := Lib.hid ho
            have HSM := Lib.hid hsom
            clear hls ho hsom
            by_cases hlt : k < D.length
            · obtain ⟨b, off, hbo, hbl, hc⟩ := HDC.out (by rintro rfl; simp at hlt)
              injection hbo with hbo
              injection hbo with hbo1 hbo2
              subst hbo1 hbo2
              obtain ⟨k0, k1⟩ := ff_cells (fun i u hu => (hbel.cell (p := ⟨g, 0 + k * 2 + i, none⟩) hbl).trans (hc k hlt i u hu))
              have hi : (k : Int) < (D.length : Int) := by omega
              have hi0 : (0 : Int) ≤ (k : Int) := by omega
              have HTS := Lib.hid (tw_step D n k hlt HLS.out)
              have HTK : Hid (D.take (k + 1) = D.take k ++ [D[k]]) := Lib.hid (List.take_succ_eq_append_getElem hlt)
              have HNX : Hid (Wr.less D[k].1 n = true → ∀ j, ∀ h : j < D.length, j < k + 1 → Wr.less D[j].1 n = true) := Lib.hid (fun hx j h hj => by
                by_cases hjk : j = k
                · subst hjk; exact hx
                · exact HLS.out j h (by omega))
              clear hc
              generalize D[k] = q at *
              obtain ⟨x, y⟩ := q
              simp only [Nat.zero_add] at k0 k1 HTS HTK HNX
              have hb0 : Op.bytesLess (bs x).toList (bs n).toList = Wr.less x n := by rw [toListB, toListB]
              have hkc : k < D.length := hlt
              by_cases hxl : Wr.less x n = true
              · rw [hxl] at hb0
                have HN2 := Lib.hid (HNX.out hxl)
                have hol : (D.take k).length < 1000000 := by simp; omega
                clear hxl
                go_wp2_with fail
                go_quiet (fail)
                go_wp2_with (at_builtin; refine app_file (w0 := World.drewN _ _) rfl (.tmp 52) (.tmp 57) rfl w2.heap.size _ (D.take k) (x, y) rfl wr.heap.size rfl rfl HO.out hle hol ?_; intro v' w4 h8 h9 h10)
                go_roundw
                case rel => exact ⟨k + 1, by omega, by go_num, HN2.out, by rw [HTK.out]; exact h8, by have := h8.som (by simp); rw [show (D.take k ++ [(x, y)]).length = k + 1 by simp; omega] at this; exact this, (below_drewN hbel _).trans h9⟩
                case measure => simp [RowKit.intOf]; omega
              · have hxl : Wr.less x n = false := by simpa using hxl
                rw [hxl] at hb0
                have HT2 := Lib.hid (HTS.out hxl)
                clear hxl
                go_wp2_with fail
                go_quiet (fail)
                go_wp2_with fail
                go_meet
                exact ⟨k, by omega, HT2.out.1, HT2.out.2, HO.out, HSM.out, below_drewN hbel _⟩
            · obtain rfl : k = D.length := by omega
              have HT2 := Lib.hid (tw_end D n (fun j h => HLS.out j h h))
              have hnl : ¬ (D.length : Int) < (D.length : Int) := by omega
              go_wp2_with fail
              go_quiet (fail)
              go_wp2_with fail
              go_meet
              exact ⟨D.length, Nat.le_refl _, HT2.out.1, HT2.out.2, HO.out, HSM.out, below_drewN hbel _⟩
        case rest =>
          obtain ⟨k, hk, htk, hdk, ho, ⟨g3, c3, rfl⟩, hbel⟩ := hcut
          clear hmade
          obtain ⟨w3, hw3⟩ : ∃ w', w' = wc := ⟨_, rfl⟩
          subst hw3
          have hle := hbel.size
          have f0 := (hbel.cell (p := ⟨g0, 0, none⟩) hgl2).trans E0.out
          have f1 := (hbel.cell (p := ⟨g0, 1, none⟩) hgl2).trans E1.out
          have HO := Lib.hid ho
          have HINS : Hid (Wr.ins D (n, t) = (D.take k ++ [(n, t)]) ++ D.drop k) := Lib.hid (by unfold Wr.ins; rw [← htk, ← hdk]; simp)
          have hol : (D.take k).length = k := by simp; omega
          have hkl : k < 1000000 := by omega
          have hbel3 := Lib.hid hbel
          clear ho htk hdk hbel
          go_upto_region 13 with (at_builtin; refine app_file rfl (.tmp 61) (.tmp 63) rfl w2.heap.size _ (D.take k) (n, t) rfl w3.heap.size rfl rfl HO.out hle (by omega) ?_; intro v4 w4 h8 h9 h10)
          have hb4 : Below w2.heap.size w2 w4 := hbel3.out.trans h9
          have hle4 := hb4.size
          have HR4 := Lib.hid (HD.out.below hb4 (Nat.le_refl _))
          have H8 := Lib.hid h8
          have hkI : (k : Int) ≤ (D.length : Int) := by omega
          have hkI0 : (0 : Int) ≤ (k : Int) := by omega
          have hDc : (D.length : Int) ≤ (c : Int) := by omega
          clear h8 h10
          obtain ⟨ad, had, hnews⟩ : ∃ ad, slAddr (some ⟨g, 0, none⟩) k c 2 = some ad ∧ ∀ j u, ((D.drop k).flatMap ff)[j]? = some u → w4.cell? (ad.add j) = some u := by
            by_cases hkD : k < D.length
            · refine ⟨⟨g, 0 + k * 2, none⟩, ?_, row_news HR4.out k hkD⟩
              simp only [slAddr]
              rw [if_neg (by omega)]
              simp [Addr.add_lit]
            · refine ⟨(slAddr (some ⟨g, 0, none⟩) k c 2).getD ⟨g, 0, none⟩, ?_, ?_⟩
              · simp only [slAddr]
                split <;> simp
              · intro j u hj
                rw [List.drop_of_length_le (by omega)] at hj
                simp at hj
          have HNW := Lib.hid hnews
          have HLEN : Hid (((D.drop k).flatMap ff).length = (D.length - k) * 2) := Lib.hid (by rw [flat_length ff_length]; simp)
          have HONE : Hid (∀ u ∈ (D.drop k).flatMap ff, u.oneCell' = true) := Lib.hid (fun u hu => by
            obtain ⟨f, _, hf⟩ := List.mem_flatMap.1 hu
            simp [ff] at hf
            rcases hf with rfl | rfl <;> rfl)
          obtain ⟨i0, hi0, hz0, hz1, hz2⟩ := info_parts fileInfo
          have h8l : (D.take k ++ [(n, t)]).length = k + 1 := by simp; omega
          have hsz : (k + 1) + (D.length - k) ≤ 200000 := by omega
          have HI := Lib.hid (And.intro hi0 (And.intro hz0 (And.intro hz1 hz2)))
          clear hnews hi0 hz0 hz1 hz2
          go_wp2_with (at_builtin; refine wpList_append_own _ rfl (.tmp 65) (.tmp 68) 30 rfl w2.heap.size 29 i0 _ 2 32 Tryz.underlying30 HI.out.1 HI.out.2.1 HI.out.2.2.1 HI.out.2.2.2 rfl (by decide) v4 (D.take k ++ [(n, t)]).length _ rfl H8.out ad (D.length - k) (c - k) ((D.drop k).flatMap ff) rfl HLEN.out HNW.out HONE.out (by simp only [maxLen]; omega) (by omega) hle4 ?_; intro v5 w5 h11 h12 h13)
          have h11' : OwnC 29 2 ff w2.heap.size w5 v5 ((D.take k ++ [(n, t)]) ++ D.drop k) := by
            have e : ((D.take k ++ [(n, t)]) ++ D.drop k).length = (D.take k ++ [(n, t)]).length + (D.length - k) := by simp; omega
            unfold OwnC
            rw [e, List.flatMap_append]
            exact h11
          have hb5 : Below w2.heap.size w2 w5 := hb4.trans (grown_below H8.out hle4 h12)
          go_wp2_with fail
          go_ret2
          exact ⟨v5, by rw [HE.out.1]; rfl, by rw [HE.out.2, HINS.out]; exact h11'.rowC ff_length, fun k h => Nat.le_trans HB2.out.size (h11'.lt k h).1, HB2.out.trans (hb5.mono HB2.out.size)⟩
end Go.Proofs.YtkoegbjnhoecoaaGreatDoor
namespace Go.Proofs.YtkoegbjnhoecoaaGreatDoor
open Go.RowKit Tx

/-- A row's value: nil, or one that lies somewhere. -/
def NilOr (v : Value) : Prop := v = .slice none 0 0 ∨ ∃ ad n c, v = .slice (some ad) n c
theorem OwnC.nilOr {base : Nat} {w : World} {v : Value} {l : List Wr.F} (h : OwnC 29 2 ff base w v l) : NilOr v := by
  rcases h.2 with ⟨rfl, _⟩ | ⟨g, cap, cur, rfl, _⟩
  · exact .inl rfl
  · exact .inr ⟨_, _, _, rfl⟩
theorem ff_ones (f : Wr.F) : ∀ y ∈ ff f, y.oneCell' = true := by
  intro y hy
  simp only [ff, List.mem_cons, List.not_mem_nil, or_false] at hy
  rcases hy with rfl | rfl <;> rfl
theorem src_row {w : World} {B : Nat} {v : Value} {l : List Wr.F} (hr : RowC 2 ff w B v l) (hv : NilOr v) : Src w 2 v l.length (l.flatMap ff) := by
  obtain ⟨A, c, rfl, h1, h2, h3⟩ := hr.shape
  rcases hv with hv | ⟨ad, n, c', hv⟩
  · injection hv with e1 e2 e3
    have : l = [] := List.eq_nil_of_length_eq_zero e2
    subst this e1 e3
    exact .inl ⟨rfl, rfl, rfl⟩
  · injection hv with e1 e2 e3
    subst e1
    refine .inr ⟨ad, c, rfl, flat_length ff_length l, fun j u hu => ?_⟩
    by_cases hl : l = []
    · subst hl; simp at hu
    · obtain ⟨b, off, e, _, _⟩ := h3 hl
      injection e with e
      subst e
      have := row_news hr 0 (List.length_pos_iff.2 hl) j u (by simpa using hu)
      simpa using this
set_option maxRecDepth 100000 in
set_option maxHeartbeats 4000000 in
theorem clone_any (v : Value) (l : List Wr.F) (w : World) (hr : RowC 2 ff w w.heap.size v l) (hv : NilOr v) (hl : l.length < 1000000) :
    Calls Tryz.prog 33 #[v] w fun e w' => ∃ v', e = .returned v' ∧ OwnC 29 2 ff w.heap.size w' v' l ∧ Below w.heap.size w w' := by
  have hsrc := src_row hr hv
  have hnil : ∀ w : World, (binOp BinOp.eql 30 (.slice none 0 0) (.slice none 0 0)).run Tryz.prog w = .ok (.bool true) w := fun _ => by kernel_rfl
  have hsome : ∀ (ad : Addr) (n c : Nat) (w : World), (binOp BinOp.eql 30 (.slice (some ad) n c) (.slice none 0 0)).run Tryz.prog w = .ok (.bool false) w := fun _ _ _ _ => by kernel_rfl
  rcases hv with rfl | ⟨ad, n, c, rfl⟩
  · have : l = [] := by
      obtain ⟨A, c, e, _⟩ := hr.shape
      injection e with e1 e2 e3
      exact List.eq_nil_of_length_eq_zero e2.symm
    subst this
    clear hr hsrc
    go_enter Tryz.func33, Tryz.ntmps33
    go_wp2_with fail
    go_ret
    exact ⟨_, rfl, OwnC.nil _ _ _ _ _, Below.refl _ _⟩
  · obtain ⟨i0, hi0, hz0, hz1, hz2⟩ := info_parts fileInfo
    have hmade := OwnC.made 29 2 ff w.heap.size w (Nat.le_refl _)
    have hba := (Below.refl w.heap.size w).alloc (Nat.le_refl _) (.cells #[] 29)
    have HSRC := Lib.hid (show Src (w.alloc (.cells #[] 29)) 2 (.slice (some ad) n c) l.length (l.flatMap ff) from src_row (hr.below hba (Nat.le_refl _)) (.inr ⟨ad, n, c, rfl⟩))
    have HM := Lib.hid hmade
    have HB := Lib.hid hba
    clear hr hsrc hmade hba
    go_enter Tryz.func33, Tryz.ntmps33
    go_wp2_with (at_builtin; refine wpList_appRow (by rfl) (.tmp 5) (.tmp 6) 30 (by rfl) w.heap.size 29 i0 _ 2 32 Tryz.underlying30 hi0 hz0 hz1 hz2 (by rfl) (by decide) _ 0 [] (by rfl) HM.out (Nat.le_trans (Nat.le_refl _) HB.out.size) _ (by rfl) l.length (l.flatMap ff) HSRC.out (fun y hy => by obtain ⟨f, _, hf⟩ := List.mem_flatMap.1 hy; exact ff_ones f y hf) (by simp only [maxLen]; omega) (by omega) ?_; intro v' w' h1 h2 h3; rw [Nat.zero_add, List.nil_append] at h1)
    go_ret
    exact ⟨v', rfl, h1, HB.out.trans ((grown_below HM.out HB.out.size h2))⟩

theorem rowC_blk {α : Type} {n : Nat} {f : α → List Value} {w w' : World} {B B' : Nat} {v : Value} {xs : List α} (h : RowC n f w B v xs) (hB : B ≤ B')
    (hk : ∀ b, v.ownBlock = some b → b < B → w'.heap[b]? = w.heap[b]?) : RowC n f w' B' v xs := by
  obtain ⟨cap, h1, h2, h3⟩ := h
  refine ⟨cap, h1, h2, ?_⟩
  rcases h3 with h3 | ⟨b, off, hv, hlt, hc⟩
  · exact .inl h3
  · refine .inr ⟨b, off, hv, Nat.lt_of_lt_of_le hlt hB, fun j hj i u hu => ?_⟩
    exact (World.cell?_of_block (a := ⟨b, off + j * n + i, none⟩) (hk b (by rw [hv]; rfl) hlt)).trans (hc j hj i u hu)
/-- In the world w, behind block B, block sb is a store on the disk in block bd, with these heads and files; R: blocks of one's own, none the disk's. -/
structure StIn (B : Nat) (w0 w : World) (bd : Nat) (d : Dk.St) (sb : Nat) (h0 h1 : Sq.Head) (l : List Wr.F) (R : List Nat) : Prop where
  disk : Dk.InR B w0 w bd d R
  mem : sb ∈ R
  files : ∃ fv, w.heap[sb]? = some (SBlk bd h0 h1 fv) ∧ RowC 2 ff w w.heap.size fv l ∧ NilOr fv ∧ ∀ k, fv.ownBlock = some k → k ∈ R ∧ k ≠ sb
theorem StIn.below {B : Nat} {w0 w w' : World} {bd : Nat} {d : Dk.St} {sb : Nat} {h0 h1 : Sq.Head} {l : List Wr.F} {R : List Nat} (h : StIn B w0 w bd d sb h0 h1 l R) (hb : Below w.heap.size w w') : StIn B w0 w' bd d sb h0 h1 l R := by
  obtain ⟨fv, k1, k2, k3, k4⟩ := h.files
  exact ⟨(h.disk.below hb).1, h.mem, fv, (hb.block sb (lt_of_block k1)).trans k1, rowC_blk k2 hb.size (fun b _ hlt => hb.block b hlt), k3, k4⟩
/-- A row that neither a disk nor a store is about to turn. -/
def RowK (B : Nat) (R : List Nat) (sb : Nat) (w : World) (v : Value) (l : List Wr.F) : Prop := RowC 2 ff w w.heap.size v l ∧ NilOr v ∧ ∀ k, v.ownBlock = some k → k < B ∨ (k ∈ R ∧ k ≠ sb)
theorem RowK.keep {B : Nat} {R : List Nat} {sb : Nat} {w0 w w' : World} {v : Value} {l : List Wr.F} (h : RowK B R sb w v l) (h0 : Below B w0 w) (h1 : Below B w0 w') (hs : w.heap.size ≤ w'.heap.size) (hR : ∀ k ∈ R, k ≠ sb → w'.heap[k]? = w.heap[k]?) {R' : List Nat} (hR' : ∀ k ∈ R, k ∈ R') : RowK B R' sb w' v l :=
  ⟨rowC_blk h.1 hs (fun b hb _ => by
    rcases h.2.2 b hb with hk | ⟨hk, hne⟩
    · exact (h1.block b hk).trans (h0.block b hk).symm
    · exact hR b hk hne), h.2.1, fun k hk => (h.2.2 k hk).imp id fun ⟨a, b⟩ => ⟨hR' k a, b⟩⟩
theorem load_any {B : Nat} {w0 w : World} {bd : Nat} {d : Dk.St} {sb : Nat} {h0 h1 : Sq.Head} {l : List Wr.F} {R : List Nat} (h : StIn B w0 w bd d sb h0 h1 l R) (hl : l.length < 1000000) :
    Calls Tryz.prog 15 #[.pointer (some ⟨sb, 0, none⟩)] w fun e w' => ∃ v', e = .returned v' ∧ OwnC 29 2 ff w.heap.size w' v' l ∧ Below w.heap.size w w' := by
  obtain ⟨fv, k1, k2, k3, _⟩ := h.files
  obtain ⟨_, _, _, _, _, c5, _⟩ := sblk_cells k1
  have hc := Lib.hid (clone_any fv l w k2 k3 hl)
  obtain ⟨A, c, rfl, _⟩ := k2.shape
  clear k1 k2 k3
  go_enter Tryz.func15, Tryz.ntmps15
  go_wp2_with fail
  refine hc.out.mono ?_
  rintro e w' ⟨v', rfl, h1, h2⟩
  go_wp2_with fail
  go_ret
  exact ⟨_, rfl, h1, h2⟩
end Go.Proofs.YtkoegbjnhoecoaaGreatDoor
namespace Go.Proofs.YtkoegbjnhoecoaaGreatDoor
open Go.RowKit Tx

def ParseNew (s : Bs) (w : World) (e : Ending) (w' : World) : Prop :=
  Below w.heap.size w w' ∧ ∃ v, e = .returned (.tuple #[v, .int .i64 (parE s : Nat)]) ∧ RowC 2 ff w' w'.heap.size v (parL s) ∧ NilOr v ∧ ∀ b, v.ownBlock = some b → w.heap.size ≤ b ∧ b < w'.heap.size
set_option maxRecDepth 100000 in
set_option maxHeartbeats 4000000 in
theorem wParse_new (s : Bs) (w : World) (hs : s.length ≤ 1000000) (hg : Gl w) :
    Calls Tryz.prog 42 #[vs s] w (ParseNew s w) := by
  have HA := Lib.hid (all_any s w hs hg.et)
  clear hg
  go_enter Tryz.func42, Tryz.ntmps42
  go_wp2_with fail
  refine HA.out.mono ?_
  rintro e w1 ⟨hb, v, rfl, hrow⟩
  match hall : Wr.all s with
  | .error y =>
    have hy := all_errne s s.length y (Nat.le_refl _) hall
    have hye : allE s = y := by unfold allE; rw [hall]
    have hyl : allL s = [] := by unfold allL; rw [hall]
    have HP : Hid (parE s = y ∧ parL s = []) := Lib.hid (by unfold parE parL Wr.parse; rw [hall]; exact ⟨rfl, rfl⟩)
    have hy0 : ((y : Int) != 0) = true := by simp; omega
    rw [hye]
    obtain ⟨A, cap, rfl, _⟩ := hrow.shape
    clear hrow hye hyl hall hy
    go_wp2_with fail
    go_ret2
    exact ⟨hb, .slice none 0 0, by rw [HP.out.1]; rfl, by rw [HP.out.2]; exact row_none _ _, .inl rfl, fun b h => by cases h⟩
  | .ok L =>
    obtain ⟨hL1, hL2⟩ := Wr.all_inv s.length s L (Nat.le_refl _) hall
    have hll := puts_len L
    rw [← hL1] at hll
    have hye : allE s = 0 := by unfold allE; rw [hall]
    have hyl : allL s = L := by unfold allL; rw [hall]
    rw [hye]
    rw [hyl] at hrow
    have HP : Hid (Wr.parse s = if L.length % 2 = 1 then .error 5 else if Wr.right (Wr.pairs L) = true then .ok (Wr.pairs L) else .error 5) := Lib.hid (by unfold Wr.parse; rw [hall])
    have HL2 := Lib.hid hL2
    obtain ⟨A, cap, rfl, q1, q2, q3⟩ := hrow.shape
    have HC := Lib.hid q3
    clear hrow hye hyl hall hL1 hL2 q3
    have hpl := pairs_len L
    by_cases hodd : L.length % 2 = 1
    · have HQ : Hid (parE s = 5 ∧ parL s = []) := Lib.hid (by unfold parE parL; rw [HP.out, if_pos hodd]; exact ⟨rfl, rfl⟩)
      have ho : (((L.length : Int).tmod 2) != 0) = true := by
        rw [Int.tmod_eq_emod_of_nonneg (by omega)]
        have : ((L.length : Int) % 2) = 1 := by omega
        rw [this]; rfl
      have ho2 : ((L.length : Int) % 2 != 0) = true := by
        have : ((L.length : Int) % 2) = 1 := by omega
        rw [this]; rfl
      clear hodd hpl
      go_wp2_with fail
      go_ret2
      exact ⟨hb, .slice none 0 0, by rw [HQ.out.1]; rfl, by rw [HQ.out.2]; exact row_none _ _, .inl rfl, fun b h => by cases h⟩
    · have ho : (((L.length : Int).tmod 2) != 0) = false := by
        rw [Int.tmod_eq_emod_of_nonneg (by omega)]
        have : ((L.length : Int) % 2) = 0 := by omega
        rw [this]; rfl
      have ho2 : ((L.length : Int) % 2 != 0) = false := by
        have : ((L.length : Int) % 2) = 0 := by omega
        rw [this]; rfl
      have hev : Hid (L.length % 2 = 0) := Lib.hid (by omega)
      have hod := Lib.hid hodd
      clear hodd
      obtain ⟨wq, rfl⟩ : ∃ wq, wq = w1 := ⟨_, rfl⟩
      have hle1 := hb.size
      have HPL := Lib.hid hpl
      clear hpl
      go_wp2_with fail
      go_loopw [6, 7] (fun o i wr => ∃ j : Nat, 2 * j ≤ L.length ∧ i = .int .i64 (2 * j : Nat) ∧ OwnC 29 2 ff wq.heap.size wr o ((Wr.pairs L).take j) ∧ Below wq.heap.size wq wr) (fun _ i _ => L.length - (RowKit.intOf i).toNat)
      case atStart => exact ⟨0, by omega, rfl, OwnC.nil _ _ _ _ _, Below.refl _ _⟩
      case round =>
        obtain ⟨j, hj, rfl, hown, hbel⟩ := hrel
        have hle := hbel.size
        have hol : ((Wr.pairs L).take j).length ≤ j := by simp; omega
        by_cases hlt : 2 * j < L.length
        · have h21 : 2 * j + 1 < L.length := by have := hev.out; omega
          obtain ⟨b, off, rfl, hbl, hc⟩ := HC.out (by rintro rfl; simp at hlt)
          have c0 := (hbel.cell (p := ⟨b, off + 2 * j, none⟩) hbl).trans (hc (2 * j) hlt)
          have c1 := (hbel.cell (p := ⟨b, off + (2 * j + 1), none⟩) hbl).trans (hc (2 * j + 1) h21)
          have HS := Lib.hid (pairs_step L j h21)
          generalize L[2 * j] = x at *
          generalize L[2 * j + 1] = y at *
          obtain ⟨k, hk⟩ : ∃ k, k = 2 * j := ⟨_, rfl⟩
          rw [← hk] at c0 c1 hlt h21 hj ⊢
          have HK := Lib.hid hk
          have hkj : k ≤ 1000000 := by omega
          have hjk : j < 1000000 := by omega
          have HO := Lib.hid hown
          clear hk hc hown
          have i0 : (0 : Int) ≤ (k : Int) := by omega
          have i1 : (k : Int) < (L.length : Int) := by omega
          have i2 : (k : Int) + 1 < (L.length : Int) := by omega
          have i3 : (0 : Int) ≤ (k : Int) + 1 := by omega
          have hw : IntKind.i64.wrap ((k : Int) + 1) = (k : Int) + 1 := IntWalk.i64_in _ (by omega)
          have ht : ((k : Int) + 1).toNat = k + 1 := by omega
          go_upto_region 10 with fail
          have hbase := hle
          go_region_held3 (fun wx => wx.cell? ⟨b, off + k, none⟩ = some (.string (bs x)) ∧ wx.cell? ⟨b, off + (k + 1), none⟩ = some (.string (bs y))) (first | go_keep | exact ⟨(h9.cell (p := ⟨b, off + k, none⟩) hbl).trans (Lib.cell?_alloc_marked _ c0), (h9.cell (p := ⟨b, off + (k + 1), none⟩) hbl).trans (Lib.cell?_alloc_marked _ c1)⟩) ((refine step_file (by rfl) (.tmp 26) (.tmp 37) (by rfl) wq.heap.size _ ((Wr.pairs L).take j) (x, y) (by rfl) wr.heap.size (by rfl) (heap_alloc_new _ _) (HO.out.below ((Below.refl _ _).alloc (Nat.le_refl _) _).drew) (by simp; omega) (by omega) ?_; intro v' w4 h8 h9 h10))
          go_wp2_with fail
          go_roundw
          case rel => exact ⟨j + 1, by have := HK.out; omega, by have := HK.out; congr 1; omega, by rw [HS.out]; exact h8, (hbel.alloc hle _).drew.trans h9⟩
          case measure => simp [RowKit.intOf]; omega
        · have hjl : (Wr.pairs L).length ≤ j := by have := hev.out; have := HPL.out; omega
          have HT : Hid ((Wr.pairs L).take j = Wr.pairs L) := Lib.hid (List.take_of_length_le hjl)
          rw [HT.out] at hown
          obtain ⟨k, hk⟩ : ∃ k, k = 2 * j := ⟨_, rfl⟩
          have hnl : ¬ k < L.length := by omega
          have hnli : (L.length : Int) ≤ (k : Int) := by omega
          rw [← hk]
          clear hk hlt hjl
          have HR := Lib.hid (fRight_any _ (Wr.pairs L) wr (hown.rowC ff_length) (fun f hf => by
            obtain ⟨h1, h2⟩ := pairs_mem L f hf
            have h3 := HL2.out _ h1
            have h4 := HL2.out _ h2
            exact ⟨by simp only [maxLen]; omega, by simp only [maxLen]; omega⟩))
          have HO := Lib.hid hown
          clear hown
          by_cases hrt : Wr.right (Wr.pairs L) = true
          · have HQ : Hid (parE s = 0 ∧ parL s = Wr.pairs L) := Lib.hid (by unfold parE parL; rw [HP.out, if_neg hod.out, if_pos hrt]; exact ⟨rfl, rfl⟩)
            rw [hrt] at HR
            clear hrt
            go_wp2_with fail
            refine HR.out.mono ?_
            rintro e w3 ⟨rfl, hb3⟩
            go_wp2_with fail
            go_ret2
            exact ⟨below_via hb (below_via hbel hb3), _, by rw [HQ.out.1]; rfl, by rw [HQ.out.2]; exact (HO.out.below hb3).rowC ff_length, HO.out.nilOr, fun b h => ⟨Nat.le_trans hb.size (HO.out.lt b h).1, Nat.lt_of_lt_of_le (HO.out.lt b h).2 hb3.size⟩⟩
          · have HQ : Hid (parE s = 5 ∧ parL s = []) := Lib.hid (by unfold parE parL; rw [HP.out, if_neg hod.out, if_neg hrt]; exact ⟨rfl, rfl⟩)
            have hrt : Wr.right (Wr.pairs L) = false := by simpa using hrt
            rw [hrt] at HR
            clear hrt
            go_wp2_with fail
            refine HR.out.mono ?_
            rintro e w3 ⟨rfl, hb3⟩
            go_wp2_with fail
            go_ret2
            exact ⟨below_via hb (below_via hbel hb3), .slice none 0 0, by rw [HQ.out.1]; rfl, by rw [HQ.out.2]; exact row_none _ _, .inl rfl, fun b h => by cases h⟩
end Go.Proofs.YtkoegbjnhoecoaaGreatDoor
namespace Go.Proofs.YtkoegbjnhoecoaaGreatDoor
open Go.RowKit Tx

theorem puts_nil (f : Int → Option Dk.Wr) : Dk.puts f [] = f := rfl
theorem at_nil (d : Dk.St) (h : d.pend = []) (i : Int) : Dk.at_ d i = Sq.sect d.held i := by
  unfold Dk.at_ Sq.sect
  rw [h, puts_nil]
  cases d.held i <;> rfl
theorem read_nil (d : Dk.St) (h : d.pend = []) (i : Nat) (hi : (i : Int) < d.n) : Dk.read d i = (Sq.sect d.held i, 0) := by
  have : Dk.has d (i : Int) = true := by unfold Dk.has; simp [hi]
  unfold Dk.read
  rw [this, at_nil d h]
  simp
theorem open_small {B : Nat} {w0 w : World} {bd : Nat} {d : Dk.St} {R : List Nat} (h : Dk.InR B w0 w bd d R) (hn : d.n < 4) :
    Calls Tryz.prog 18 #[.pointer (some ⟨bd, 0, none⟩)] w fun e w' => e = .returned (.tuple #[.pointer none, .int .i64 1]) ∧ w = w' := by
  have HL := Lib.hid (len_in h.to_in)
  obtain ⟨n, hn'⟩ : ∃ n, n = d.n := ⟨_, rfl⟩
  rw [← hn'] at HL hn
  clear h hn'
  go_enter Tryz.func18, Tryz.ntmps18
  go_wp2_with fail
  refine HL.out.mono ?_
  rintro e w1 ⟨rfl, rfl⟩
  go_wp2_with fail
  go_ret2
  exact ⟨rfl, rfl⟩
/-- What Open leaves. -/
def OpenPost (B : Nat) (w0 w : World) (bd : Nat) (d : Dk.St) (h0 h1 : Sq.Head) (l : List Wr.F) (R : List Nat) (e : Ending) (w' : World) : Prop :=
  ∃ sb R', e = .returned (.tuple #[.pointer (some ⟨sb, 0, none⟩), .int .i64 0]) ∧ StIn B w0 w' bd d sb h0 h1 l R' ∧ w.heap.size ≤ sb ∧ (∀ k ∈ R, k ∈ R') ∧ Below w.heap.size w w'
theorem size_in {n : Nat} {T : Bs} {k : Nat} (hk : k ≤ Sq.cnt T) (_hr : T.length ≤ 64 * Sq.half n) : k < Sq.cnt T ↔ (T.take (64 * k)).length < T.length := by
  simp only [List.length_take]
  unfold Sq.cnt at *
  omega
theorem bytes_chunk (T : Bs) (k : Nat) : Lib.byteCells (T.take (64 * k)) ++ Lib.strCells (bs (Sq.chunk T k)) = Lib.byteCells (T.take (64 * (k + 1))) := by
  rw [Sq.take_chunk, Lib.byteCells_append]
  rfl
set_option maxRecDepth 100000 in
set_option maxHeartbeats 8000000 in
theorem open_any {B : Nat} {w0 w : World} {bd : Nat} {d : Dk.St} {R : List Nat} (n : Nat) (h0 h1 : Sq.Head) (T : Bs) (h : Dk.InR B w0 w bd d R) (hn : d.n = (n : Int)) (h4 : 4 ≤ n ∧ n ≤ 4096) (hp : d.pend = [])
    (hG : Sq.Good n d.held h0 h1 T) (c0 : h0.1 ≤ 1000000000 ∧ h0.2 ≤ 1000000000) (c1 : h1.1 ≤ 1000000000 ∧ h1.2 ≤ 1000000000) (hg : Gl w) :
    Calls Tryz.prog 18 #[.pointer (some ⟨bd, 0, none⟩)] w (OpenPost B w0 w bd d h0 h1 (parL T) R) := by
  have HL := Lib.hid (fun wx (hb : Below w.heap.size w wx) => hn ▸ len_in ((h.below hb).1.to_in))
  have HRD := Lib.hid (fun (i : Nat) (hi : i < n) wx (hb : Below w.heap.size w wx) => read_in (Sq.sect d.held i, 0) i ((h.below hb).1.to_in) (by rw [hp]; simp) (WalkArith.wf_i64 (by omega)) (read_nil d hp i (by rw [hn]; omega)))
  have HH := Lib.hid h
  have HG := Lib.hid hG
  have HGL := Lib.hid hg
  have HHA := Lib.hid (half_any n h4)
  have hql := half_le n h4.2
  have hroom := hG.room
  have HQ : Hid (Sq.half n = (n - 2) / 2) := Lib.hid rfl
  have HC0 := Lib.hid c0
  have HC1 := Lib.hid c1
  have n4 : ¬ ((n : Int) < 4) := by omega
  clear hn hp hG hg h c0 c1
  obtain ⟨sb, hsb⟩ : ∃ sb, sb = w.heap.size := ⟨_, rfl⟩
  obtain ⟨W, hW⟩ : ∃ W, W = w.alloc (.cells #[.pointer (some ⟨bd, 0, none⟩), .int .i64 0, .int .i64 0, .int .i64 0, .int .i64 0, .slice none 0 0] 60) := ⟨_, rfl⟩
  have hb0 : Below w.heap.size w W := by rw [hW]; exact (Below.refl _ _).alloc (Nat.le_refl _) _
  have hWb : W.heap[sb]? = some (SBlk bd (0, 0) (0, 0) (.slice none 0 0)) := by rw [hW, hsb]; exact heap_alloc_new _ _
  have HSB := Lib.hid hsb
  go_enter Tryz.func18, Tryz.ntmps18
  go_wp2_with fail
  refine (HL.out w (Below.refl _ _)).mono ?_
  rintro e w1 ⟨rfl, rfl⟩
  go_upto_block 0 with fail
  rw [← hW, ← hsb]
  clear hW hsb
  go_cut [] (fun wx => Below w.heap.size w wx ∧ wx.heap[sb]? = some (SBlk bd h0 h1 (.slice none 0 0)))
  case first =>
    go_wp2_with fail
    go_loopw [21] (fun i wr => ∃ k : Nat, k ≤ 2 ∧ i = .int .i64 k ∧ Below w.heap.size w wr ∧ wr.heap[sb]? = some (SBlk bd (if 1 ≤ k then h0 else (0, 0)) (if 2 ≤ k then h1 else (0, 0)) (.slice none 0 0))) (fun i _ => 2 - (RowKit.intOf i).toNat)
    case atStart => exact ⟨0, by omega, rfl, hb0, by simpa using hWb⟩
    case round =>
      clear hb0 hWb
      obtain ⟨k, hk, rfl, hbel, hblk⟩ := hrel
      rcases (by omega : k = 0 ∨ k = 1 ∨ k = 2) with rfl | rfl | rfl
      · -- sector 0
        have hBr : wr.heap[sb]? = some (SBlk bd (0, 0) (0, 0) (.slice none 0 0)) := by simpa using hblk
        have hslt : sb < wr.heap.size := lt_of_block hBr
        have hr1 := HRD.out 0 (by omega) wr hbel
        have HRR := Lib.hid (fun wx (hb : Below w.heap.size w wx) => read_any _ h0 HG.out.hd0 HC0.out.1 HC0.out.2 wx (HGL.out.below hb))
        simp only [Int.ofNat_zero] at hr1 ⊢
        generalize Sq.sect d.held 0 = tk at *
        clear hblk
        go_wp2_with fail
        refine hr1.mono ?_
        rintro e w2 ⟨rfl, b2⟩
        have hB2 := (b2.block sb hslt).trans hBr
        have hbel2 : Below w.heap.size w w2 := below_via hbel b2
        have H3 := HRR.out w2.drew hbel2.drew
        clear hBr b2 hbel hr1
        go_upto_region 8 with fail
        go_region_held3 (fun _ => True) (go_keep) (first
          | (go_at_call 39; refine H3.mono ?_; rintro e w3 ⟨rfl, b3⟩; have hB3 := (b3.block sb (lt_of_block hB2)).trans hB2; have hbel3 : Below w.heap.size w w3 := below_via hbel2.drew b3; have q1 : w3.cell? ⟨sb, 1, none⟩ = some (.int .i64 0) := (by rw [Lib.cell_of_heap hB3]; rfl); have q2 : w3.frozen? ⟨sb, 1, none⟩ = false := Lib.frozen_of_heap hB3 1; have q3 : ∀ v, (w3.setCell ⟨sb, 1, none⟩ v).cell? ⟨sb, 2, none⟩ = some (.int .i64 0) := (fun v => by rw [Lib.cell_of_heap (wr_cells_set (j := 1) hB3 v)]; rfl); have q4 : ∀ v, (w3.setCell ⟨sb, 1, none⟩ v).frozen? ⟨sb, 2, none⟩ = false := (fun v => Lib.frozen_of_heap (wr_cells_set (j := 1) hB3 v) 2); dsimp only))
        go_wp2_with fail
        go_roundw
        case rel => exact ⟨1, by omega, by go_num, (hbel3.setCell (p := ⟨sb, 1, none⟩) (by rw [HSB.out]; exact Nat.le_refl _) _).setCell (p := ⟨sb, 2, none⟩) (by rw [HSB.out]; exact Nat.le_refl _) _, by simpa [SBlk] using wr_cells_set (j := 2) (wr_cells_set (j := 1) hB3 (.int .i64 h0.1)) (.int .i64 h0.2)⟩
        case measure => simp [RowKit.intOf]
      · -- sector 1
        have hBr : wr.heap[sb]? = some (SBlk bd h0 (0, 0) (.slice none 0 0)) := by simpa using hblk
        have hslt : sb < wr.heap.size := lt_of_block hBr
        have hr1 := HRD.out 1 (by omega) wr hbel
        have HRR := Lib.hid (fun wx (hb : Below w.heap.size w wx) => read_any _ h1 HG.out.hd1 HC1.out.1 HC1.out.2 wx (HGL.out.below hb))
        simp only [Int.ofNat_one] at hr1 ⊢
        generalize Sq.sect d.held 1 = tk at *
        clear hblk
        go_wp2_with fail
        refine hr1.mono ?_
        rintro e w2 ⟨rfl, b2⟩
        have hB2 := (b2.block sb hslt).trans hBr
        have hbel2 : Below w.heap.size w w2 := below_via hbel b2
        have H3 := HRR.out w2.drew hbel2.drew
        clear hBr b2 hbel hr1
        go_upto_region 8 with fail
        go_region_held3 (fun _ => True) (go_keep) (first
          | (go_at_call 39; refine H3.mono ?_; rintro e w3 ⟨rfl, b3⟩; have hB3 := (b3.block sb (lt_of_block hB2)).trans hB2; have hbel3 : Below w.heap.size w w3 := below_via hbel2.drew b3; have q1 : w3.cell? ⟨sb, 3, none⟩ = some (.int .i64 0) := (by rw [Lib.cell_of_heap hB3]; rfl); have q2 : w3.frozen? ⟨sb, 3, none⟩ = false := Lib.frozen_of_heap hB3 3; have q3 : ∀ v, (w3.setCell ⟨sb, 3, none⟩ v).cell? ⟨sb, 4, none⟩ = some (.int .i64 0) := (fun v => by rw [Lib.cell_of_heap (wr_cells_set (j := 3) hB3 v)]; rfl); have q4 : ∀ v, (w3.setCell ⟨sb, 3, none⟩ v).frozen? ⟨sb, 4, none⟩ = false := (fun v => Lib.frozen_of_heap (wr_cells_set (j := 3) hB3 v) 4); dsimp only))
        go_wp2_with fail
        go_roundw
        case rel => exact ⟨2, by omega, by go_num, (hbel3.setCell (p := ⟨sb, 3, none⟩) (by rw [HSB.out]; exact Nat.le_refl _) _).setCell (p := ⟨sb, 4, none⟩) (by rw [HSB.out]; exact Nat.le_refl _) _, by simpa [SBlk] using wr_cells_set (j := 4) (wr_cells_set (j := 3) hB3 (.int .i64 h1.1)) (.int .i64 h1.2)⟩
        case measure => simp [RowKit.intOf]
      · have hBr : wr.heap[sb]? = some (SBlk bd h0 h1 (.slice none 0 0)) := by simpa using hblk
        clear hblk
        go_wp2_with fail
        go_meet
        exact ⟨hbel, hBr⟩
  case rest =>
    obtain ⟨hbel, hblk⟩ := hcut
    clear hb0 hWb
    obtain ⟨wd, hwd⟩ : ∃ wd, wd = wc := ⟨_, rfl⟩
    subst hwd
    have hnow := now_any sb bd h0 h1 (.slice none 0 0) wd hblk
    have ha1 := Sq.now_le h0 h1
    have HCUR : Hid ((Sq.now h0 h1 = 0 ∧ Sq.cur h0 h1 = h0) ∨ (Sq.now h0 h1 = 1 ∧ Sq.cur h0 h1 = h1)) := Lib.hid (by rcases Sq.now_two h0 h1 with e | e <;> rw [Sq.cur_now, e] <;> simp)
    have HSZ := Lib.hid HG.out.size
    have HDATA := Lib.hid HG.out.data
    have HFR : Hid (∀ k, Sq.from_ n (Sq.now h0 h1) + k = 2 + Sq.now h0 h1 * Sq.half n + k) := Lib.hid (fun _ => rfl)
    generalize Sq.now h0 h1 = a at *
    generalize Sq.cur h0 h1 = cu at *
    go_wp2_with fail
    refine hnow.mono ?_
    rintro e w2 ⟨rfl, nq, hw2⟩
    have hB2 : w2.heap[sb]? = some (SBlk bd h0 h1 (.slice none 0 0)) := by rw [hw2]; exact hblk
    have hbel2 : Below w.heap.size w w2 := by rw [hw2]; exact hbel.trans ((below_of_drewN (a := wd) (B := wd.heap.size) nq).mono hbel.size)
    clear hw2 hnow hblk hbel
    obtain ⟨bb, hbb⟩ : ∃ bb, bb = w2.heap.size := ⟨_, rfl⟩
    obtain ⟨W2, hW2⟩ : ∃ W2, W2 = w2.alloc (.cells #[.pointer none, .slice none 0 0] 88) := ⟨_, rfl⟩
    have hfresh : BAt bb bb (.slice none 0 0) [] W2 := by rw [hbb, hW2]; exact BAt.fresh w2
    have hb2 : Below w.heap.size w W2 := by rw [hW2]; exact hbel2.alloc hbel2.size _
    have hsbb : sb < bb := by rw [hbb]; exact lt_of_block hB2
    have hB3 : W2.heap[sb]? = some (SBlk bd h0 h1 (.slice none 0 0)) := by rw [hW2]; exact (Below.heap_alloc _ _ _ (lt_of_block hB2)).trans hB2
    have hbbw : w.heap.size ≤ bb := by rw [hbb]; exact hbel2.size
    go_wp2_with fail
    rw [← hW2, ← hbb]
    clear hW2 hbb hB2 hbel2
    obtain ⟨q, hq⟩ : ∃ q, q = Sq.half n := ⟨_, rfl⟩
    rw [← hq] at hql hroom HQ HHA
    have HQE := Lib.hid hq
    obtain ⟨f, hf⟩ : ∃ f, f = a * q := ⟨_, rfl⟩
    have hfl : f ≤ q := by rw [hf]; rcases (by omega : a = 0 ∨ a = 1) with rfl | rfl <;> simp
    have v1 : IntKind.i64.wrap ((a : Int) * (q : Int)) = (f : Int) := by rw [hf, IntWalk.i64_in _ (by rcases (by omega : a = 0 ∨ a = 1) with rfl | rfl <;> simp <;> omega)]; simp
    have HF := Lib.hid hf
    have v2 : IntKind.i64.wrap (2 + (f : Int)) = ((2 + f : Nat) : Int) := by rw [IntWalk.i64_in _ (by omega)]; omega
    obtain ⟨F, hF⟩ : ∃ F, F = 2 + f := ⟨_, rfl⟩
    rw [← hF] at v2
    have hFl : F ≤ 3000 := by omega
    have HFE := Lib.hid hF
    clear hq hf hF
    have a0 : (0 : Int) ≤ (a : Int) := by omega
    have a2 : (a : Int) < 2 := by omega
    go_loopw [10] (fun i wr => ∃ (k : Nat) (v : Value), k ≤ Sq.cnt T ∧ i = .int .i64 k ∧ BAt bb bb v (Lib.byteCells (T.take (64 * k))) wr ∧ Below w.heap.size w wr ∧ wr.heap[sb]? = some (SBlk bd h0 h1 (.slice none 0 0))) (fun i _ => Sq.cnt T - (RowKit.intOf i).toNat)
    case atStart => exact ⟨0, _, Nat.zero_le _, rfl, by simpa [Lib.byteCells] using hfresh, hb2, hB3⟩
    case round =>
      clear hfresh hb2 hB3
      obtain ⟨k, v, hk, rfl, hbu, hbel, hblk⟩ := hrel
      have hle := hbel.size
      have hsz := size_in (n := n) hk (by rw [← HQE.out]; exact hroom)
      have hlen : (Lib.byteCells (T.take (64 * k))).length = (T.take (64 * k)).length := Lib.byteCells_length _
      have HLEN := Lib.hid (Tryz.Builder_Len bb bb _ wr.drew hbu.is)
      rw [hlen] at HLEN
      have hcntl : Sq.cnt T ≤ 2047 := by have := Sq.cnt_le (n := n) (T := T) (by rw [← HQE.out]; exact hroom); rw [← HQE.out] at this; omega
      have hml : (T.take (64 * k)).length ≤ T.length := by simp; omega
      have d1 : wr.cell? ⟨sb, 1 + a * 2 + 1, none⟩ = some (.int .i64 cu.2) := by
        obtain ⟨_, _, e2, _, e4, _, _⟩ := sblk_cells hblk
        rcases HCUR.out with ⟨rfl, rfl⟩ | ⟨rfl, rfl⟩
        · exact e2
        · exact e4
      rw [← HSZ.out] at d1
      have HMT : Hid (T.take (64 * Sq.cnt T) = T) := Lib.hid (List.take_of_length_le (by unfold Sq.cnt; omega))
      generalize hm : (T.take (64 * k)).length = m at *
      clear hlen hm
      by_cases hlt : k < Sq.cnt T
      · have hmt : (m : Int) < (T.length : Int) := by have := hsz.1 hlt; omega
        obtain ⟨G, hG⟩ : ∃ G, G = F + k := ⟨_, rfl⟩
        have hGn : G < n := by have := HQ.out; have := HFE.out; have := Sq.cnt_le (n := n) (T := T) (by rw [← HQE.out]; exact hroom); rw [← HQE.out] at this; omega
        have hGe : Sq.from_ n a + k = G := by rw [HFR.out, hG, HFE.out, HF.out, ← HQE.out]
        have hdt := HDATA.out k hlt
        rw [hGe] at hdt
        have v3 : IntKind.i64.wrap ((F : Int) + (k : Int)) = (G : Int) := by rw [hG, IntWalk.i64_in _ (by omega)]; simp
        have v4 : IntKind.i64.wrap ((k : Int) + 1) = ((k + 1 : Nat) : Int) := by rw [IntWalk.i64_in _ (by omega)]; simp
        have hrd := fun wx hb => HRD.out G hGn wx hb
        rw [hdt] at hrd
        have HRDG := Lib.hid hrd
        have HCH := Lib.hid (bytes_chunk T k)
        have hchl := Sq.chunk_len T k
        have hbl : (Lib.byteCells (T.take (64 * k))).length ≤ 131072 := by rw [Lib.byteCells_length]; simp; omega
        have HBU := Lib.hid hbu
        have HBL := Lib.hid hbel
        have hblt := hbu.lt
        have hvb : v.ownBlock ≠ some sb := fun e => by
          obtain ⟨_, p, hp, h2, h3, h4⟩ := hbu
          have := (h3.lt sb e).1
          omega
        generalize Sq.chunk T k = ck at *
        clear hGe hdt hG hrd hsz
        clear hbu hbel
        go_wp2_with fail
        go_region_held3 (fun wx => wx.cell? ⟨sb, 1 + a * 2 + 1, none⟩ = some (.int .i64 T.length)) (go_keep) (first
          | (go_at_call 40; refine HLEN.out.mono ?_; rintro e x1 ⟨rfl, rfl⟩; dsimp only))
        go_wp2_with fail
        refine (HL.out wr.drew HBL.out.drew).mono ?_
        rintro e x2 ⟨rfl, rfl⟩
        go_wp2_with fail
        refine (HHA.out _).mono ?_
        rintro e x3 ⟨rfl, rfl⟩
        go_wp2_with fail
        refine (HRDG.out wr.drew HBL.out.drew).mono ?_
        rintro e x4 ⟨rfl, b4⟩
        have b4' : Below wr.heap.size wr x4 := (Below.refl wr.heap.size wr).drew.trans b4
        have HBU4 := Lib.hid (HBU.out.below b4')
        have hB4 := (b4'.block sb (lt_of_block hblk)).trans hblk
        have hsb4 := lt_of_block hB4
        have HB4 := Lib.hid (HBL.out.trans (b4'.mono hle))
        have hbb4 : bb ≤ x4.heap.size := Nat.le_of_lt (Nat.lt_of_lt_of_le hblt.1 b4'.size)
        clear b4 b4' hblk d1
        go_wp2_with fail
        refine (writeString_at bb bb v (Lib.byteCells (T.take (64 * k))) (bs ck) x4 HBU4.out (by rw [bs_size]; omega) hbb4).mono ?_
        rintro e x5 ⟨rfl, ⟨v', hv'⟩, b5, hoth⟩
        have HV5 := Lib.hid hv'
        have HB5 := Lib.hid (HB4.out.trans (b5.mono hbbw))
        have HX5 := Lib.hid ((hoth sb hsb4 (by omega) hvb).trans hB4)
        clear hv' b5 hoth hB4
        go_wp2_with fail
        go_roundw
        case rel => exact ⟨k + 1, v', by omega, rfl, by rw [← HCH.out]; exact HV5.out, HB5.out, HX5.out⟩
        case measure => simp [RowKit.intOf]; omega
      · obtain rfl : k = Sq.cnt T := by omega
        have hmt : ¬ (m : Int) < (T.length : Int) := by have := fun hx => hlt (hsz.2 hx); omega
        rw [HMT.out] at hbu
        have HBU := Lib.hid hbu
        have HBL := Lib.hid hbel
        have HST := Lib.hid (Tryz.Builder_String_any bb bb T wr.drew hbu.is (by have := hbu.lt.1; show bb ≤ wr.heap.size; omega))
        have hTl : T.length ≤ 1000000 := by omega
        have hblt := hbu.lt.1
        clear hbu hbel hsz
        go_wp2_with fail
        go_region_held3 (fun wx => wx.cell? ⟨sb, 1 + a * 2 + 1, none⟩ = some (.int .i64 T.length)) (go_keep) (first
          | (go_at_call 40; refine HLEN.out.mono ?_; rintro e x1 ⟨rfl, rfl⟩; dsimp only))
        go_wp2_with fail
        refine HST.out.mono ?_
        rintro e x2 ⟨rfl, b2⟩
        have hB2 := (b2.block sb hsbb).trans (show wr.drew.heap[sb]? = _ from hblk)
        have HB2 := Lib.hid (HBL.out.drew.trans (b2.mono hbbw))
        clear b2 hblk d1
        go_wp2_with fail
        refine (wParse_new T x2 hTl (HGL.out.below HB2.out)).mono ?_
        rintro e x3 ⟨b3, fv, rfl, hrow, hnil, hnew⟩
        have hB3 := (b3.block sb (lt_of_block hB2)).trans hB2
        have HB3 := Lib.hid (below_via HB2.out b3)
        have hb3s := b3.size
        have hsb2 := lt_of_block hB2
        obtain ⟨_, _, _, _, _, e5, fz⟩ := sblk_cells hB3
        have f5 := fz 5
        have HROW := Lib.hid hrow
        have HNIL := Lib.hid hnil
        have HNEW := Lib.hid hnew
        obtain ⟨pA, pn, pc, rfl⟩ : ∃ A n c, fv = .slice A n c := by obtain ⟨A, c, h, _⟩ := hrow.shape; exact ⟨A, _, c, h⟩
        clear hrow hnil hnew b3 fz hB2
        go_wp2_with fail
        go_ret2
        have hsbw : w.heap.size ≤ sb := by rw [HSB.out]; exact Nat.le_refl _
        have hB9 : Below w.heap.size w (x3.setCell ⟨sb, 5, none⟩ (.slice pA pn pc)) := HB3.out.setCell (p := ⟨sb, 5, none⟩) hsbw _
        have hs9 : (x3.setCell ⟨sb, 5, none⟩ (.slice pA pn pc)).heap.size = x3.heap.size := World.size_setCell _ _ _
        refine ⟨sb, sb :: ((Value.slice pA pn pc).ownBlock.toList ++ R), rfl, ⟨HH.out.turn (Moved.of_below hB9 _) (fun k hk => ?_), by simp, .slice pA pn pc, ?_, ?_, HNIL.out, fun k hk => ?_⟩, hsbw, fun k hk => by simp [hk], hB9⟩
        · rw [hs9]
          simp only [List.mem_cons, List.mem_append, Option.mem_toList] at hk
          rcases hk with rfl | hk | hk
          · exact ⟨.inr hsbw, by omega⟩
          · have := HNEW.out k hk
            exact ⟨.inr (by have := HB2.out.size; omega), this.2⟩
          · exact ⟨.inl hk, Nat.lt_of_lt_of_le (HH.out.2.2.1 k hk).1 HB3.out.size⟩
        · simpa [SBlk] using wr_cells_set (j := 5) hB3 (.slice pA pn pc)
        · refine rowC_blk HROW.out (by rw [hs9]; exact Nat.le_refl _) (fun b hb _ => Below.heap_setCell _ _ _ _ (fun e => ?_))
          have := (HNEW.out b hb).1
          simp only at e
          omega
        · have := HNEW.out k hk
          exact ⟨by simp [hk], by omega⟩
end Go.Proofs.YtkoegbjnhoecoaaGreatDoor
