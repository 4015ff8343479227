/- record.Right. · strings.Builder's copyCheck and WriteString at this dump, whose copyCheck has no text for its panic. · wire.Files, the reference's Files. · record.text. · record.Encode. · (*reader).all: the texts in one. -/
import Derived.Test.YtiogmegdkfnkkaaGreatDoorQ8
import Derived.Test.YtiogmegdkfnkkaaGreatDoorRows
import Derived.Test.YtiogmegdkfnkkaaGreatDoorQ1
import Derived.Test.YtiogmegdkfnkkaaGreatDoorShelf
import Derived.Shelf.Strings.Builder1
import Derived.Test.YtiogmegdkfnkkaaGreatDoorQ2
import Derived.Test.YtiogmegdkfnkkaaGreatDoorQ5
import Derived.Deep.DrawnRows
import Derived.IntWalk
namespace Go.Proofs.YtiogmegdkfnkkaaGreatDoor
open Go.Maps Go.RowKit Tx

theorem may_b {q : Bool} (rz : Raw) (z : Rc.Rec) (w : World) (hz : RecIs w w.heap.size rz z) (hok : RecOk z) (hz1 : z.2.1.length < 1000000) (hq : Rc.mayR z = q) :
    Calls Tryz.prog 23 #[.agg #[.string (bs rz.1), rz.2.1, rz.2.2]] w fun e w' => e = .returned (.bool q) ∧ Below w.heap.size w w' := by
  subst hq
  exact may_any rz z w hz hok hz1
set_option maxRecDepth 100000 in
set_option maxHeartbeats 8000000 in
theorem right_any (v : Value) (l : List Rc.Rec) (w : World) (hr : RowR w w.heap.size v l) (hn : l.length < 1000000) (hok : ∀ x ∈ l, RecOk x ∧ x.2.1.length < 1000000) :
    Calls Tryz.prog 10 #[v] w fun e w' => e = .returned (.bool (Rc.rightR l)) ∧ Below w.heap.size w w' := by
  have hmm := @run_makeMap Tryz.prog
  obtain ⟨A, cap, rfl, c1, c2, c3⟩ := hr.shape
  have HC := Lib.hid c3
  have HO := Lib.hid hok
  have hm0 : MapS (w.alloc (.map #[] 0)) 9 w.heap.size 0 (fun n => one1 ((l.take 0).any fun y => y.1 == n)) := by
    have := MapS.made w 9
    simpa [one1] using this
  have HM0 := Lib.hid (And.intro hm0 (show Below w.heap.size w (w.alloc (.map #[] 0)) from (Below.refl _ _).alloc (Nat.le_refl _) _))
  clear c3 hr hok hm0
  go_enter Tryz.func10, Tryz.ntmps10
  go_wp2_with fail
  go_loopw [9] (fun i wr => ∃ k : Nat, k ≤ l.length ∧ i = .int .i64 k ∧ Hid (∀ j < k, Rc.stepR l j = true) ∧ Hid (MapS wr 9 w.heap.size k (fun n => one1 ((l.take k).any fun y => y.1 == n))) ∧ Below w.heap.size w wr) (fun i _ => l.length - (RowKit.intOf i).toNat)
  case atStart => exact ⟨0, Nat.zero_le _, rfl, Lib.hid (fun j hj => absurd hj (Nat.not_lt_zero _)), Lib.hid HM0.out.1, HM0.out.2⟩
  case round =>
    clear HM0
    obtain ⟨k, hk, rfl, hst, hmap, hbel⟩ := hrel
    have hle := hbel.size
    by_cases hlt : k < l.length
    · obtain ⟨b, off, rfl, hbl, ⟨x0, r1, r2⟩, ⟨j1, j2, j3⟩, hrec⟩ := HC.out k hlt
      have HT : Hid (l.take (k + 1) = l.take k ++ [l[k]]) := Lib.hid (List.take_succ_eq_append_getElem hlt)
      have HSE := Lib.hid (Rc.stepR_at l k hlt)
      have HNO := Lib.hid (Rc.rightR_no l k hlt)
      obtain ⟨ok, okl⟩ := HO.out _ (List.getElem_mem hlt)
      generalize l[k] = x at *
      obtain ⟨B1, p1, B2, p2, hr3⟩ := hrec.rows
      injection hr3 with e1 e2
      injection e2 with e2 e3
      subst e1 e2 e3
      simp only at j1 j2 j3
      have k1 := (hbel.cell (p := ⟨b, off + k * 3, none⟩) hbl).trans j1
      have k2 := (hbel.cell (p := ⟨b, off + k * 3 + 1, none⟩) hbl).trans j2
      have k3 := (hbel.cell (p := ⟨b, off + k * 3 + 2, none⟩) hbl).trans j3
      clear j1 j2 j3
      have i0 : (0 : Int) ≤ (k : Int) := by omega
      have i1 : (k : Int) < (l.length : Int) := by omega
      have okr := ok.1
      have hnew := heap_alloc_new wr (.cells #[.string (bs x.1), .slice B1 x.2.1.length p1, .slice B2 x.2.2.length p2] 42)
      have hal : Below wr.heap.size wr (wr.alloc (.cells #[.string (bs x.1), .slice B1 x.2.1.length p1, .slice B2 x.2.2.length p2] 42)) := (Below.refl _ _).alloc (Nat.le_refl _) _
      have hmb := hmap.out.lt
      have hm1 := hmap.out.below hal
      have hsz1 : (wr.alloc (.cells #[.string (bs x.1), .slice B1 x.2.1.length p1, .slice B2 x.2.2.length p2] 42)).heap.size = wr.heap.size + 1 := by simp
      have hlk := hm1.look (t := 64) (z := .int .i64 0) Tryz.underlying9 Tryz.underlying64 (intZero _) false x.1 okr
      simp only [Bool.false_eq_true, if_false] at hlk
      obtain ⟨cb1, cb2, cb3, _, _, _⟩ := cells3 hnew
      have hq1 : (one1 ((l.take k).any fun y => y.1 == x.1)).getD (.int .i64 0) = .int .i64 (if (l.take k).any (fun y => y.1 == x.1) then 1 else 0) := by
        unfold one1; split <;> rfl
      rw [hq1] at hlk
      have HME : ∀ w2, MapS w2 9 w.heap.size (k + 1) (fun j => if j = x.1 then some (.int .i64 1) else one1 ((l.take k).any fun y => y.1 == j)) → ((l.take k).any fun y => y.1 == x.1) = false → MapS w2 9 w.heap.size (k + 1) (fun n => one1 ((l.take (k + 1)).any fun y => y.1 == n)) := by
        intro w2 h hq
        refine h.congr fun j => ?_
        rw [HT.out, List.any_append]
        by_cases hj : j = x.1
        · subst hj; rw [hq, if_pos rfl]; simp [one1]
        · rw [if_neg hj]
          have : (x.1 == j) = false := by simpa using fun e => hj e.symm
          simp [this]
      have HME := Lib.hid HME
      clear hq1
      generalize hq : (l.take k).any (fun y => y.1 == x.1) = q at *
      cases q with
      | true =>
        have HFF := Lib.hid (HNO.out (by rw [HSE.out]; simp))
        simp only [if_true] at hlk
        obtain ⟨w2, hup, hm2, hg2⟩ := hm1.update (t := 64) Tryz.underlying9 Tryz.underlying64 (by simp only [maxLen]; omega) x.1 okr (.int .i64 2)
        have hlk2 := hm2.look (t := 64) (z := .int .i64 0) Tryz.underlying9 Tryz.underlying64 (intZero _) false x.1 okr
        simp only [Bool.false_eq_true, if_false, if_true, Option.getD_some] at hlk2
        have hnew2 := (hg2.block wr.heap.size (by rw [hsz1]; omega) (fun e => by injection e with e; omega)).trans hnew
        obtain ⟨d1, d2, d3, _, _, _⟩ := cells3 hnew2
        have hb2 : Below w.heap.size w w2 := (hbel.trans (hal.mono hle)).grown hg2 (Nat.le_trans hle (by rw [hsz1]; omega)) (fun e he => by injection he with he; omega)
        clear hm2 hg2 hm1 hmap hnew hnew2 HME hq
        go_wp2_with fail
        go_ret
        exact ⟨ret_bool HFF.out.symm, hb2⟩
      | false =>
        simp only [Bool.false_eq_true, if_false] at hlk
        obtain ⟨w2, hup, hm2, hg2⟩ := hm1.update (t := 64) Tryz.underlying9 Tryz.underlying64 (by simp only [maxLen]; omega) x.1 okr (.int .i64 1)
        have hlk2 := hm2.look (t := 64) (z := .int .i64 0) Tryz.underlying9 Tryz.underlying64 (intZero _) false x.1 okr
        simp only [Bool.false_eq_true, if_false, if_true, Option.getD_some] at hlk2
        have hnew2 := (hg2.block wr.heap.size (by rw [hsz1]; omega) (fun e => by injection e with e; omega)).trans hnew
        obtain ⟨d1, d2, d3, _, _, _⟩ := cells3 hnew2
        have hb2 : Below w.heap.size w w2 := (hbel.trans (hal.mono hle)).grown hg2 (Nat.le_trans hle (by rw [hsz1]; omega)) (fun e he => by injection he with he; omega)
        have HM2 := Lib.hid (HME.out w2 hm2 rfl)
        have hrec2 := (hrec.below hb2 (Nat.le_refl _)).more hb2.size
        clear hm2 hg2 hm1 hmap hnew hnew2 HME hq hrec
        cases hmq : Rc.mayR x with
        | true =>
          have HFF := Lib.hid (show Rc.stepR l k = true by rw [HSE.out, hmq]; rfl)
          have hcon := may_b _ x w2 hrec2 ok okl hmq
          simp only at hcon
          clear HSE HNO hmq
          go_wp2_with (go_at_call 23; refine hcon.mono ?_; rintro e w3 ⟨rfl, hb3⟩)
          go_roundw
          case rel => exact ⟨k + 1, by omega, by go_num, Lib.hid (fun j hj => by rcases Nat.lt_or_eq_of_le (Nat.lt_succ_iff.1 hj) with h | rfl; exact hst.out j h; exact HFF.out), Lib.hid (HM2.out.below hb3), hb2.trans (hb3.mono hb2.size)⟩
          case measure => simp [RowKit.intOf]; omega
        | false =>
          have HFF := Lib.hid (HNO.out (by rw [HSE.out, hmq]; rfl))
          have hcon := may_b _ x w2 hrec2 ok okl hmq
          simp only at hcon
          clear HSE HNO hmq
          go_wp2_with (go_at_call 23; refine hcon.mono ?_; rintro e w3 ⟨rfl, hb3⟩)
          go_ret
          exact ⟨ret_bool HFF.out.symm, hb2.trans (hb3.mono hb2.size)⟩
    · obtain rfl : k = l.length := by omega
      have HE := Lib.hid (Rc.rightR_end l hst.out)
      clear hst hmap
      by_cases h12 : l.length ≤ 12
      · have HF : Hid (Rc.rightR l = true) := Lib.hid (by rw [HE.out]; exact decide_eq_true h12)
        have h4 : decide ((l.length : Int) ≤ 12) = true := decide_eq_true (by omega)
        go_wp2_with fail
        go_ret
        exact ⟨by rw [HF.out]; first | rfl | (simp; omega), hbel⟩
      · have HF : Hid (Rc.rightR l = false) := Lib.hid (by rw [HE.out]; exact decide_eq_false h12)
        have h4 : decide ((l.length : Int) ≤ 12) = false := decide_eq_false (by omega)
        go_wp2_with fail
        go_ret
        exact ⟨by rw [HF.out]; first | rfl | (simp; omega), hbel⟩
end Go.Proofs.YtiogmegdkfnkkaaGreatDoor
namespace Go.Proofs.YtiogmegdkfnkkaaGreatDoor
open Go.RowKit Go.Lib

set_option maxRecDepth 100000 in
theorem copyCheck_used (b : Nat) (w : World) (h0 : w.cell? ⟨b, 0, none⟩ = some (.pointer (some ⟨b, 0, none⟩))) :
    Calls Tryz.prog 57 #[.pointer (some ⟨b, 0, none⟩)] w fun e w' => e = .returned (.tuple #[]) ∧ w' = w := by
  obtain ⟨j, hj, _⟩ := Option.map_eq_some_iff.1 (show (Tryz.prog.info? 91).map (·.size) = some 2 by kernel_rfl)
  go_enter Tryz.func57, Tryz.ntmps57
  go_wp2
  rw [Lib.run_neq_ptr_same w _ Tryz.underlying88 hj]
  go_wp2
  go_end0
  exact ⟨rfl, rfl⟩

set_option maxRecDepth 100000 in
theorem copyCheck_fresh (b : Nat) (w : World) (h0 : w.cell? ⟨b, 0, none⟩ = some (.pointer none)) (hsh : w.shape? b = some (91, 2)) (hfz : w.frozen? ⟨b, 0, none⟩ = false) :
    Calls Tryz.prog 57 #[.pointer (some ⟨b, 0, none⟩)] w fun e w' => e = .returned (.tuple #[]) ∧ w' = w.setCell ⟨b, 0, none⟩ (.pointer (some ⟨b, 0, none⟩)) := by
  obtain ⟨j, hj, hjs⟩ := Option.map_eq_some_iff.1 (show (Tryz.prog.info? 91).map (·.size) = some 2 by kernel_rfl)
  go_enter Tryz.func57, Tryz.ntmps57
  go_wp2
  rw [Lib.run_to_unsafe w ⟨b, 0, none⟩ Tryz.underlying88 Tryz.underlying120 hj (by rw [hjs]; decide) hsh (Nat.zero_lt_succ 1)]
  simp only [Result.andThen]
  rw [Oper.upon_value]
  go_wp2
  rw [run_callFunc_extern Tryz.func69 (by kernel_rfl) (by kernel_rfl) (by kernel_rfl) (e := Extern.AbiNoEscape.same) (by kernel_rfl)]
  rw [Lib.run_noEscape]
  simp only [Result.andThen]
  rw [Oper.upon_value]
  go_wp2
  rw [Lib.run_from_unsafe w ⟨b, 0, none⟩ Tryz.underlying120 Tryz.underlying88 hj hsh (by kernel_rfl)]
  simp only [Result.andThen]
  rw [Oper.upon_value]
  go_wp2
  go_end0
  exact ⟨rfl, rfl⟩

theorem wr_cells_set {w : World} {b j : Nat} {c : Array Value} {t : TypeId} (h : w.heap[b]? = some (.cells c t (0, 0))) (v : Value) : (w.setCell ⟨b, j, none⟩ v).heap[b]? = some (.cells (c.setIfInBounds j v) t (0, 0)) := by
  have hlt := lt_of_block h
  have h' : w.heap[b] = .cells c t (0, 0) := by simpa [Array.getElem?_eq_getElem hlt] using h
  show (w.heap.modify b _)[b]? = _
  rw [Array.getElem?_eq_getElem (by simpa using hlt), Array.getElem_modify_self, h']
  rfl
abbrev ez : Value := .string ⟨#[]⟩
set_option maxHeartbeats 2000000 in
/-- A builder whose buffer is v. -/
def BAt (B b : Nat) (v : Value) (bs : List Value) (w : World) : Prop := B ≤ b ∧ ∃ p, (p = .pointer none ∨ p = .pointer (some ⟨b, 0, none⟩)) ∧ w.heap[b]? = some (.cells #[p, v] 91 (0, 0)) ∧ w.ownsRow B 5 1 v bs.length bs ∧ v.ownBlock ≠ some b
theorem BAt.is {B b : Nat} {v : Value} {bs : List Value} {w : World} (h : BAt B b v bs w) : Lib.IsBuilder 91 5 B b bs w := by
  obtain ⟨h1, p, hp, h2⟩ := h
  rcases hp with rfl | rfl
  · exact .inl ⟨h1, v, h2⟩
  · exact .inr ⟨h1, v, h2⟩
theorem BAt.fresh (w : World) : BAt w.heap.size w.heap.size (.slice none 0 0) [] (w.alloc (.cells #[.pointer none, .slice none 0 0] 91)) :=
  ⟨Nat.le_refl _, _, .inl rfl, heap_alloc_new w _, World.ownsRow_nil _ _ _ _, by simp [Value.ownBlock]⟩
theorem BAt.below {B b : Nat} {v : Value} {bs : List Value} {w w' : World} (h : BAt B b v bs w) (hb : Below w.heap.size w w') : BAt B b v bs w' := by
  obtain ⟨h1, p, hp, h2, h3, h4⟩ := h
  exact ⟨h1, p, hp, (hb.block _ (Array.getElem?_eq_some_iff.1 h2).1).trans h2, own_below h3 hb, h4⟩
theorem BAt.lt {B b : Nat} {v : Value} {bs : List Value} {w : World} (h : BAt B b v bs w) : b < w.heap.size ∧ ∀ k, v.ownBlock = some k → k < w.heap.size := by
  obtain ⟨h1, p, hp, h2, h3, h4⟩ := h
  exact ⟨(Array.getElem?_eq_some_iff.1 h2).1, fun k hk => (h3.lt k hk).2⟩
theorem copyCheck_any (B b : Nat) (v : Value) (bs : List Value) (w : World) (h : BAt B b v bs w) :
    Calls Tryz.prog 57 #[.pointer (some ⟨b, 0, none⟩)] w fun e w' => e = .returned (.tuple #[]) ∧ w'.heap[b]? = some (.cells #[.pointer (some ⟨b, 0, none⟩), v] 91 (0, 0)) ∧ w'.ownsRow B 5 1 v bs.length bs ∧ Below B w w' ∧ ∀ k, k ≠ b → w'.heap[k]? = w.heap[k]? := by
  obtain ⟨h1, p, hp, h2, h3, h4⟩ := h
  rcases hp with rfl | rfl
  · have hA : Lib.BuilderAt 91 5 B b (.pointer none) bs w := ⟨h1, v, h2, h3, h4⟩
    refine (copyCheck_fresh b w hA.cell0 hA.shape hA.frozen0).mono ?_
    rintro e w' ⟨rfl, rfl⟩
    have hk : ∀ k, k ≠ b → (w.setCell ⟨b, 0, none⟩ (.pointer (some ⟨b, 0, none⟩))).heap[k]? = w.heap[k]? := fun k hk => Below.heap_setCell _ _ _ _ (fun e => hk (by simpa using e))
    refine ⟨rfl, ?_, own_heap h3 (fun k hk' => hk k (fun e => h4 (by rw [hk', e]))), (Below.refl B w).setCell (p := ⟨b, 0, none⟩) h1 _, hk⟩
    have := wr_cells_set (j := 0) h2 (.pointer (some ⟨b, 0, none⟩))
    exact this
  · have hA : Lib.BuilderAt 91 5 B b (.pointer (some ⟨b, 0, none⟩)) bs w := ⟨h1, v, h2, h3, h4⟩
    refine (copyCheck_used b w hA.cell0).mono ?_
    rintro e w' ⟨rfl, rfl⟩
    exact ⟨rfl, h2, h3, Below.refl B _, fun _ _ => rfl⟩

theorem u8Info : (Tryz.prog.info? 5).map (fun i => (i.zero, i.size, i.bytes)) = some (some (.int .u8 0), 1, 1) := by kernel_rfl
set_option maxRecDepth 100000 in
set_option maxHeartbeats 2000000 in
theorem writeString_at (B b : Nat) (v0 : Value) (bs : List Value) (s : ByteArray) (w : World) (h : BAt B b v0 bs w) (hlen : bs.length + s.size ≤ 140737488355328) (hBw : B ≤ w.heap.size) :
    Calls Tryz.prog 46 #[.pointer (some ⟨b, 0, none⟩), .string s] w fun e w' => e = .returned (.tuple #[.int .i64 s.size, .nilIface]) ∧ (∃ v', BAt B b v' (bs ++ Lib.strCells s) w') ∧ Below B w w' ∧ ∀ k, k < w.heap.size → k ≠ b → v0.ownBlock ≠ some k → w'.heap[k]? = w.heap[k]? := by
  obtain ⟨i0, hi, hz0, hz1, hz2⟩ := info_parts u8Info
  have hB := h.1
  have hne := h.2.choose_spec.2.2.2
  go_enter Tryz.func46, Tryz.ntmps46
  go_wp2_with (go_at_call 57; refine (copyCheck_any B b v0 bs _ h).mono ?_)
  rintro e w1 ⟨rfl, hbk, hown, hb1, hoth⟩
  have c0 : w1.cell? ⟨b, 0, none⟩ = some (.pointer (some ⟨b, 0, none⟩)) := by rw [Lib.cell_of_heap hbk]; rfl
  have c1 : w1.cell? ⟨b, 1, none⟩ = some v0 := by rw [Lib.cell_of_heap hbk]; rfl
  have HO := Lib.hid hoth
  have HN := Lib.hid hne
  clear hoth hne h
  go_wp2_with (at_builtin; refine Lib.wpList_append_own_string _ rfl _ _ 89 9 rfl B 5 i0 Tryz.underlying89 Tryz.underlying9 hi hz0 hz1 hz2 _ _ _ rfl hown s rfl ?c3 ?c4 ?c5 ?_)
  case c3 => unfold maxLen; omega
  case c4 => omega
  case c5 => have := hb1.size; omega
  intro v' w2 hown' hgrow _
  have hlt : b < w1.heap.size := by
    rcases Nat.lt_or_ge b w1.heap.size with h' | h'
    · exact h'
    · simp [Array.getElem?_eq_none h'] at hbk
  have hb2 : w2.heap[b]? = some (.cells #[.pointer (some ⟨b, 0, none⟩), v0] 91 (0, 0)) := by
    rw [hgrow.block b hlt (fun e => HN.out e.symm)]
    exact hbk
  have d0 : w2.cell? ⟨b, 0, none⟩ = some (.pointer (some ⟨b, 0, none⟩)) := by rw [Lib.cell_of_heap hb2]; rfl
  have d1 : w2.cell? ⟨b, 1, none⟩ = some v0 := by rw [Lib.cell_of_heap hb2]; rfl
  have f1 : w2.frozen? ⟨b, 1, none⟩ = false := Lib.frozen_of_heap hb2 1
  obtain ⟨ao, n', cap, rfl⟩ : ∃ ao n' cap, v' = .slice ao n' cap := by
    rcases hown'.2 with ⟨hv, _⟩ | ⟨g, cap, cur, hv, _⟩
    · exact ⟨_, _, _, hv⟩
    · exact ⟨_, _, _, hv⟩
  go_wp2
  go_ret2
  refine ⟨rfl, ?_, ?_, ?_⟩
  · have hq := Lib.BuilderAt.put (T := 91) (e := 5) hB hb2 (bs' := bs ++ Lib.strCells s) (by simpa [Lib.strCells_length] using hown') (by decide)
    obtain ⟨q1, vq, q2, q3, q4⟩ := hq
    exact ⟨vq, q1, _, .inr rfl, q2, q3, q4⟩
  · exact (hb1.grown hgrow (by have := hb1.size; omega) (fun k hk => (hown.lt k hk).1)).setCell (p := ⟨b, 1, none⟩) hB _
  · intro k hk hkb hkv
    have e1 : w1.heap.size ≥ w.heap.size := hb1.size
    rw [Below.heap_setCell _ _ _ _ (fun e => hkb (by simpa using e)), hgrow.block k (by omega) (fun e => hkv e.symm)]
    exact HO.out k hkb
end Go.Proofs.YtiogmegdkfnkkaaGreatDoor
namespace Go.Proofs.YtiogmegdkfnkkaaGreatDoor
open Go.RowKit Tx

theorem files_take (l : List Wr.F) (k : Nat) (h : k < l.length) : Wr.files (l.take (k + 1)) = Wr.files (l.take k) ++ (Wr.put l[k].1 ++ Wr.put l[k].2) := by
  rw [List.take_succ_eq_append_getElem h, Wr.files_snoc]
theorem files_le (l : List Wr.F) (k : Nat) : (Wr.files (l.take k)).length ≤ (Wr.files l).length := by
  have : Wr.files l = Wr.files (l.take k) ++ Wr.files (l.drop k) := by
    unfold Wr.files
    rw [← List.flatten_append, ← List.map_append, List.take_append_drop]
  rw [this]
  simp
/-- Two cells, in each world behind one. -/
abbrev S2 (w : World) (a0 a1 : Addr) (x y : Bs) (wx : World) : Prop := wx.cell? a0 = some (.string (bs x)) ∧ wx.cell? a1 = some (.string (bs y)) ∧ Below w.heap.size w wx
theorem S2.bel {p q r : Prop} (x : p ∧ q ∧ r) : r := x.2.2
theorem S2.of {w : World} {a0 a1 : Addr} {x y : Bs} (h0 : w.cell? a0 = some (.string (bs x))) (h1 : w.cell? a1 = some (.string (bs y))) (wx : World) (hb : Below w.heap.size w wx) : S2 w a0 a1 x y wx :=
  ⟨(hb.cell (World.block_lt_of_cell? _ _ (by rw [h0]))).trans h0, (hb.cell (World.block_lt_of_cell? _ _ (by rw [h1]))).trans h1, hb⟩

attribute [local go_sem ↓] Go.wp_at_zero Go.wp_at_succ
theorem box_cells {w : World} {x y : Bs} : (w.alloc (.cells #[.string (bs x), .string (bs y)] 46)).cell? ⟨w.heap.size, 0, none⟩ = some (.string (bs x)) ∧ (w.alloc (.cells #[.string (bs x), .string (bs y)] 46)).cell? ⟨w.heap.size, 1, none⟩ = some (.string (bs y)) := by
  constructor
  · rw [cell_of_row _ w.heap.size 0 _ 46 (0, 0) (heap_alloc_new w _)]; rfl
  · rw [cell_of_row _ w.heap.size 1 _ 46 (0, 0) (heap_alloc_new w _)]; rfl
set_option maxRecDepth 100000 in
set_option maxHeartbeats 4000000 in
theorem wFiles_any (v : Value) (l : List Wr.F) (w : World) (hr : RowC 2 ff w w.heap.size v l) (hl : (Wr.files l).length ≤ 10000000) (hg : Gl w) :
    Calls Tryz.prog 31 #[v] w fun e w' => e = .returned (vs (Wr.files l)) ∧ Below w.heap.size w w' := by
  obtain ⟨A, cap, rfl, h1, h2, h3⟩ := hr.shape
  have HC := Lib.hid h3
  have HG := Lib.hid hg
  clear h3 hr hg
  obtain ⟨B, hB⟩ : ∃ B, B = w.heap.size := ⟨_, rfl⟩
  have hfresh : BAt B B (.slice none 0 0) [] (w.alloc (.cells #[.pointer none, .slice none 0 0] 91)) := hB ▸ BAt.fresh w
  have hb0 : Below B w (w.alloc (.cells #[.pointer none, .slice none 0 0] 91)) := hB ▸ (Below.refl _ _).alloc (Nat.le_refl _) _
  have HB := Lib.hid hB
  go_enter Tryz.func31, Tryz.ntmps31
  go_wp2_with fail
  rw [← hB]
  clear hB
  go_loopw [8] (fun i wr => ∃ (k : Nat) (v : Value), k ≤ l.length ∧ i = .int .i64 k ∧ BAt B B v (Lib.byteCells (Wr.files (l.take k))) wr ∧ Below B w wr) (fun i _ => l.length - (RowKit.intOf i).toNat)
  case atStart => exact ⟨0, _, Nat.zero_le _, rfl, hfresh, hb0⟩
  case round =>
    clear hfresh hb0
    obtain ⟨k, v, hk, rfl, hbu, hbel⟩ := hrel
    have hle := hbel.size
    by_cases hlt : k < l.length
    · have hi : (k : Int) < (l.length : Int) := by omega
      have hi0 : (0 : Int) ≤ (k : Int) := by omega
      obtain ⟨b, off, rfl, hbl, hc⟩ := HC.out (by rintro rfl; simp at hlt)
      obtain ⟨c0, c1⟩ := ff_cells (fun i u hu => (hbel.cell (p := ⟨b, off + k * 2 + i, none⟩) (by rw [HB.out]; exact hbl)).trans (hc k hlt i u hu))
      have hle1 := files_le l (k + 1)
      have hft := files_take l k hlt
      rw [hft] at hle1
      have HF := Lib.hid hft
      clear hft hc
      generalize l[k] = f at *
      obtain ⟨x, y⟩ := f
      simp only at c0 c1 HF hle1
      simp only [List.length_append] at hle1
      have hpx : x.length ≤ (Wr.put x).length := by simp [Wr.put]; omega
      have hpy : y.length ≤ (Wr.put y).length := by simp [Wr.put]; omega
      have hx1 : x.length ≤ 1000000000 := by omega
      have hy1 : y.length ≤ 1000000000 := by omega
      obtain ⟨wb, hwb⟩ : ∃ wb, wb = wr.alloc (.cells #[.string (bs x), .string (bs y)] 46) := ⟨_, rfl⟩
      obtain ⟨g, hgs⟩ : ∃ g, g = wr.heap.size := ⟨_, rfl⟩
      have d0 : wb.cell? ⟨g, 0, none⟩ = some (.string (bs x)) := by rw [hwb, hgs]; exact box_cells.1
      have d1 : wb.cell? ⟨g, 1, none⟩ = some (.string (bs y)) := by rw [hwb, hgs]; exact box_cells.2
      have hbw : Below wr.heap.size wr wb := by rw [hwb]; exact (Below.refl _ _).alloc (Nat.le_refl _) _
      have hgb : g < wb.heap.size := World.block_lt_of_cell? wb ⟨g, 0, none⟩ (by rw [d0])
      have hlts := hbu.lt
      have HBU := Lib.hid (hbu.below hbw)
      have HV := Lib.hid (show (B ≠ g) ∧ v.ownBlock ≠ some g from ⟨by omega, fun e => by have := hlts.2 g e; omega⟩)
      have HBW := Lib.hid (show Below B w wb from hbel.trans (hbw.mono (by rw [HB.out]; exact hle)))
      have hBwb : B ≤ wb.heap.size := by rw [HB.out]; exact HBW.out.size
      have HGB := Lib.hid (HG.out.below (HB.out ▸ HBW.out : Below w.heap.size w wb))
      have HS := Lib.hid (S2.of d0 d1)
      have HX := Lib.hid (fun wx hb => wPut_any x wx hx1 (HGB.out.below hb))
      have HY := Lib.hid (fun wx hb => wPut_any y wx hy1 (HGB.out.below hb))
      generalize Wr.put x = px at *
      generalize Wr.put y = py at *
      obtain ⟨acc, hacc⟩ : ∃ acc, acc = Wr.files (l.take k) := ⟨_, rfl⟩
      rw [← hacc] at hle1 HBU
      have HAC := Lib.hid hacc
      clear hacc
      obtain ⟨T1, hT1⟩ : ∃ T, T = px ++ py := ⟨_, rfl⟩
      have o1 : bs px ++ bs py = bs T1 := by rw [hT1, bs_append]
      have p1 : ¬ (9223372036854775807 < (bs px).size + (bs py).size) := by rw [bs_size, bs_size]; omega
      have hT1l : T1.length = px.length + py.length := by rw [hT1]; simp
      have HW : Hid (Lib.byteCells (Wr.files (l.take (k + 1))) = Lib.byteCells acc ++ Lib.strCells (bs T1)) := Lib.hid (by
        rw [HF.out, ← HAC.out, ← hT1, Lib.byteCells_append]; rfl)
      have hsz : (Lib.byteCells acc).length + (bs T1).size ≤ 140737488355328 := by rw [Lib.byteCells_length, bs_size]; omega
      clear hT1 hT1l hle1 hpx hpy hbu hbw hlts d0 d1
      go_upto_region 5 with fail
      rw [← hwb, ← hgs]
      clear hwb hgs c0 c1
      go_region_held3 (fun wx => wx.cell? ⟨g, 0, none⟩ = some (.string (bs x)) ∧ wx.cell? ⟨g, 1, none⟩ = some (.string (bs y))) (first
          | (exact ⟨(World.cell?_of_block (a := ⟨g, 0, none⟩) (hoth g (Nat.lt_of_lt_of_le hgb k2.size) (fun e => HV.out.1 e.symm) HV.out.2)).trans (HS.out _ k2).1, (World.cell?_of_block (a := ⟨g, 1, none⟩) (hoth g (Nat.lt_of_lt_of_le hgb k2.size) (fun e => HV.out.1 e.symm) HV.out.2)).trans (HS.out _ k2).2.1⟩)
          | (exact ⟨(HS.out _ k2).1, (HS.out _ k2).2.1⟩)
          | (exact ⟨(HS.out _ k1).1, (HS.out _ k1).2.1⟩)
          | (exact ⟨(HS.out _ (Below.refl _ _).drew).1, (HS.out _ (Below.refl _ _).drew).2.1⟩)
          | (exact ⟨(HS.out _ (Below.refl _ _)).1, (HS.out _ (Below.refl _ _)).2.1⟩)) (first
        | (go_at_call 46; have y9 := k2; refine (writeString_at B B v (Lib.byteCells acc) (bs T1) _ (HBU.out.below k2) hsz (Nat.le_trans hBwb k2.size)).mono ?_; rintro e x3 ⟨rfl, ⟨v', hv'⟩, hb3, hoth⟩; dsimp only)
        | (go_at_call 14; have y9 := k1; (first | refine (HY.out _ k1).mono ?_ | refine (HX.out _ k1).mono ?_); rintro e x2 ⟨rfl, b1⟩
           have k2 : Below wb.heap.size wb x2 := below_via k1 b1
           clear b1; dsimp only)
        | (go_at_call 14; (first | refine (HX.out _ (Below.refl _ _).drew).mono ?_ | refine (HY.out _ (Below.refl _ _).drew).mono ?_); rintro e x1 ⟨rfl, b1⟩
           have k1 : Below wb.heap.size wb x1 := below_via (Below.refl _ _).drew b1
           clear b1; dsimp only))
      all_goals (go_wp2_with fail)
      all_goals go_roundw
      all_goals first
        | (case rel => exact ⟨k + 1, v', by omega, by go_num, by rw [HW.out]; exact hv', HBW.out.trans ((k2.mono hBwb).trans hb3)⟩)
        | (case measure => simp [RowKit.intOf]; omega)
    · obtain rfl : k = l.length := by omega
      have HT : Hid (l.take l.length = l) := Lib.hid (List.take_length)
      rw [HT.out] at hbu
      have HS := Lib.hid (Tryz.Builder_String_any B B (Wr.files l) wr hbu.is (HB.out ▸ hbel.size))
      clear hbu
      go_wp2_with fail
      refine HS.out.mono ?_
      rintro e x1 ⟨rfl, b1⟩
      go_wp2_with fail
      go_ret
      exact ⟨rfl, HB.out ▸ hbel.trans b1⟩
end Go.Proofs.YtiogmegdkfnkkaaGreatDoor
namespace Go.Proofs.YtiogmegdkfnkkaaGreatDoor
open Go.RowKit Tx

theorem readsT_take (l : List Rc.Seen) (k : Nat) (h : k < l.length) : Rc.readsT (l.take (k + 1)) = Rc.readsT (l.take k) ++ (Wr.put l[k].1 ++ Wr.put (Rc.state l[k])) := by
  rw [List.take_succ_eq_append_getElem h, Rc.readsT_snoc]
theorem readsT_le (l : List Rc.Seen) (k : Nat) : (Rc.readsT (l.take k)).length ≤ (Rc.readsT l).length := by
  have : Rc.readsT l = Rc.readsT (l.take k) ++ Rc.readsT (l.drop k) := by
    unfold Rc.readsT
    rw [← List.flatten_append, ← List.map_append, List.take_append_drop]
  rw [this]
  simp
theorem put_ge (x : Bs) : x.length ≤ (Wr.put x).length := by simp [Wr.put]; omega
set_option maxRecDepth 100000 in
set_option maxHeartbeats 8000000 in
theorem text_any (rz : Raw) (z : Rc.Rec) (w : World) (hz : RecIs w w.heap.size rz z) (hm : Rc.mayR z = true) (hg : Gl w) :
    Calls Tryz.prog 15 #[.agg #[.string (bs rz.1), rz.2.1, rz.2.2]] w fun e w' => e = .returned (vs (Rc.text z)) ∧ Below w.heap.size w w' := by
  obtain ⟨zA, zp, zA', zp', rfl⟩ := hz.rows
  simp only
  obtain ⟨_, _, e1, _, _, h3⟩ := hz.reads.shape
  simp only at e1
  injection e1 with e1 _ e1'
  subst e1 e1'
  have H3 := Lib.hid h3
  have HW := Lib.hid hz.writes
  obtain ⟨t1, t2, t3, t4⟩ := Rc.text_parts hm
  have HSK := Lib.hid (Rc.mayR_ok hm).1
  have HG := Lib.hid hg
  clear h3 hz hg hm
  have hb0 : Below w.heap.size w (w.alloc (.cells #[.string (bs z.1), .slice zA z.2.1.length zp, .slice zA' z.2.2.length zp'] 42)) := (Below.refl _ _).alloc (Nat.le_refl _) _
  have hz0 : (w.alloc (.cells #[.string (bs z.1), .slice zA z.2.1.length zp, .slice zA' z.2.2.length zp'] 42)).heap[w.heap.size]? = some (.cells #[.string (bs z.1), .slice zA z.2.1.length zp, .slice zA' z.2.2.length zp'] 42 (0, 0)) := heap_alloc_new _ _
  go_enter Tryz.func15, Tryz.ntmps15
  go_wp2_with fail
  go_loopw [3, 10] (fun s i wr => ∃ k : Nat, k ≤ z.2.1.length ∧ i = .int .i64 k ∧ s = vs (Rc.readsT (z.2.1.take k)) ∧ Below (w.heap.size + 1) (w.alloc (.cells #[.string (bs z.1), .slice zA z.2.1.length zp, .slice zA' z.2.2.length zp'] 42)) wr) (fun _ i _ => z.2.1.length - (RowKit.intOf i).toNat)
  case atStart => exact ⟨0, Nat.zero_le _, rfl, rfl, Below.refl _ _⟩
  case round =>
    obtain ⟨k, hk, rfl, rfl, hbel⟩ := hrel
    have hle := hbel.size
    rw [show (w.alloc (.cells #[.string (bs z.1), .slice zA z.2.1.length zp, .slice zA' z.2.2.length zp'] 42)).heap.size = w.heap.size + 1 by simp] at hle
    have hbw := hb0.trans (hbel.mono (Nat.le_succ _))
    have hzr := (hbel.block w.heap.size (by omega)).trans hz0
    have HGR := Lib.hid (HG.out.below hbw)
    by_cases hlt : k < z.2.1.length
    · obtain ⟨b, off, rfl, hbl, hcc⟩ := H3.out (by intro e; rw [e] at hlt; simp at hlt)
      obtain ⟨k1, k2, k3⟩ := sf_cells (fun i u hu => (hbw.cell (p := ⟨b, off + k * 3 + i, none⟩) hbl).trans (hcc k hlt i u hu))
      have hrl := readsT_le z.2.1 (k + 1)
      have HRT := Lib.hid (readsT_take z.2.1 k hlt)
      rw [HRT.out] at hrl
      have hsl := Rc.seenOk_len (HSK.out _ (List.getElem_mem hlt))
      clear hcc
      generalize z.2.1[k] = r at *
      have hal : Below wr.heap.size wr (wr.alloc (.cells #[.string (bs r.1), .bool r.2.1, .string (bs r.2.2)] 44)) := (Below.refl _ _).alloc (Nat.le_refl _) _
      have hnew := heap_alloc_new wr (.cells #[.string (bs r.1), .bool r.2.1, .string (bs r.2.2)] 44)
      have HP1 := Lib.hid (wPut_any r.1 (wr.alloc (.cells #[.string (bs r.1), .bool r.2.1, .string (bs r.2.2)] 44)) (by omega) (HGR.out.below hal))
      have HP2 := Lib.hid (fun wx (hb : Below (wr.alloc (.cells #[.string (bs r.1), .bool r.2.1, .string (bs r.2.2)] 44)).heap.size (wr.alloc (.cells #[.string (bs r.1), .bool r.2.1, .string (bs r.2.2)] 44)) wx) => wPut_any (Rc.state r) wx (by omega) ((HGR.out.below hal).below hb))
      have HPX : Hid (Rc.state r = if r.2.1 then 43 :: r.2.2 else [45]) := Lib.hid rfl
      obtain ⟨r1, r2, r3⟩ := r
      simp only at k1 k2 k3 HP1 HP2 HPX hal hnew HRT hrl hsl
      have i0 : (0 : Int) ≤ (k : Int) := by omega
      have i1 : (k : Int) < (z.2.1.length : Int) := by omega
      have hlen3 : r2 = true → r3.length ≤ 4001 := fun h => by
        have := hsl.2
        rw [HPX.out, h] at this
        simp at this
        omega
      generalize Wr.put r1 = pn at *
      generalize Wr.put (Rc.state (r1, r2, r3)) = ps at *
      generalize hacc : Rc.readsT (z.2.1.take k) = acc at *
      rw [List.length_append, List.length_append] at hrl
      obtain ⟨T1, hT1⟩ : ∃ T, T = pn ++ ps := ⟨_, rfl⟩
      obtain ⟨T2, hT2⟩ : ∃ T, T = acc ++ T1 := ⟨_, rfl⟩
      have o1 : bs pn ++ bs ps = bs T1 := by rw [hT1, bs_append]
      have o2 : bs acc ++ bs T1 = bs T2 := by rw [hT2, bs_append]
      have s1 : (bs pn).size = pn.length := bs_size _
      have s2 : (bs ps).size = ps.length := bs_size _
      have s3 : (bs T1).size = pn.length + ps.length := by rw [bs_size, hT1]; simp
      have s4 : (bs acc).size = acc.length := bs_size _
      have q1 : pn.length ≤ 200000 := by omega
      have q2 : ps.length ≤ 200000 := by omega
      have q3 : acc.length ≤ 200000 := by omega
      have HTT : Hid (T2 = Rc.readsT (z.2.1.take (k + 1))) := Lib.hid (by rw [HRT.out, hT2, hT1])
      clear hT1 hT2 hrl hacc
      cases r2 with
      | true =>
        have hl3 := hlen3 rfl
        have hx : Rc.state (r1, true, r3) = 43 :: r3 := rfl
        rw [hx] at HP2
        have o3 : (⟨#[43]⟩ : ByteArray) ++ bs r3 = bs (43 :: r3) := by show bs [43] ++ bs r3 = _; rw [bs_append]; rfl
        have s5 : (bs r3).size = r3.length := bs_size _
        clear hx HPX hlen3 hsl
        obtain ⟨cb1, cb2, cb3, _, _, _⟩ := cells3 hnew
        go_wp2_with (first
          | (go_at_call 14; have y := hb2; refine (HP2.out _ hb2).mono ?_; rintro e w3 ⟨rfl, hb3⟩)
          | (go_at_call 14; refine HP1.out.mono ?_; rintro e w2 ⟨rfl, hb2⟩; obtain ⟨d1, d2, d3, _, _, _⟩ := cells3 ((hb2.block _ (by simp)).trans hnew)))
        go_roundw
        case rel => exact ⟨k + 1, by omega, by go_num, by rw [← HTT.out], hbel.trans ((hal.mono hle).trans ((hb2.mono (Nat.le_trans hle hal.size)).trans (hb3.mono (Nat.le_trans hle (Nat.le_trans hal.size hb2.size)))))⟩
        case measure => simp [RowKit.intOf]; omega
      | false =>
        have hx : Rc.state (r1, false, r3) = [45] := rfl
        rw [hx] at HP2
        clear hx HPX hlen3 hsl
        obtain ⟨cb1, cb2, cb3, _, _, _⟩ := cells3 hnew
        go_wp2_with (first
          | (go_at_call 14; have y := hb2; refine (HP2.out _ hb2).mono ?_; rintro e w3 ⟨rfl, hb3⟩)
          | (go_at_call 14; refine HP1.out.mono ?_; rintro e w2 ⟨rfl, hb2⟩; obtain ⟨d1, d2, d3, _, _, _⟩ := cells3 ((hb2.block _ (by simp)).trans hnew)))
        go_roundw
        case rel => exact ⟨k + 1, by omega, by go_num, by rw [← HTT.out], hbel.trans ((hal.mono hle).trans ((hb2.mono (Nat.le_trans hle hal.size)).trans (hb3.mono (Nat.le_trans hle (Nat.le_trans hal.size hb2.size)))))⟩
        case measure => simp [RowKit.intOf]; omega
    · obtain rfl : k = z.2.1.length := by omega
      rw [List.take_length]
      obtain ⟨c0, c1, c2, _, _, _⟩ := cells3 hzr
      have hlt0 : w.heap.size < wr.heap.size := by omega
      have HS := Lib.hid (fun wx (hb : Below wr.heap.size wr wx) => (show wx.cell? ⟨w.heap.size, 0, none⟩ = some (.string (bs z.1)) ∧ wx.cell? ⟨w.heap.size, 2, none⟩ = some (.slice zA' z.2.2.length zp') from ⟨(hb.cell (p := ⟨w.heap.size, 0, none⟩) hlt0).trans c0, (hb.cell (p := ⟨w.heap.size, 2, none⟩) hlt0).trans c2⟩))
      have HX := Lib.hid (fun wx (hb : Below wr.heap.size wr wx) => wPut_any z.1 wx (by omega) (HGR.out.below hb))
      have HY := Lib.hid (fun wx (hb : Below wr.heap.size wr wx) => wPut_any (Rc.readsT z.2.1) wx (by omega) (HGR.out.below hb))
      have HFI := Lib.hid (fun wx (hb : Below wr.heap.size wr wx) => wFiles_any (.slice zA' z.2.2.length zp') z.2.2 wx ((((HW.out.below hbw (Nat.le_refl _)).more hbw.size).step hb)) (by omega) (HGR.out.below hb))
      have HZ := Lib.hid (fun wx (hb : Below wr.heap.size wr wx) => wPut_any (Wr.files z.2.2) wx (by omega) (HGR.out.below hb))
      have ht : (Rc.text z).length = (Wr.put z.1).length + ((Wr.put (Rc.readsT z.2.1)).length + (Wr.put (Wr.files z.2.2)).length) := by unfold Rc.text; simp
      have HTX : Hid (Rc.text z = Wr.put z.1 ++ (Wr.put (Rc.readsT z.2.1) ++ Wr.put (Wr.files z.2.2))) := Lib.hid rfl
      generalize Wr.put z.1 = p1 at *
      generalize Wr.put (Rc.readsT z.2.1) = p2 at *
      generalize Wr.put (Wr.files z.2.2) = p3 at *
      generalize Rc.readsT z.2.1 = rt at *
      generalize Wr.files z.2.2 = fs at *
      obtain ⟨T1, hT1⟩ : ∃ T, T = p1 ++ p2 := ⟨_, rfl⟩
      obtain ⟨T2, hT2⟩ : ∃ T, T = T1 ++ p3 := ⟨_, rfl⟩
      have o1 : bs p1 ++ bs p2 = bs T1 := by rw [hT1, bs_append]
      have o2 : bs T1 ++ bs p3 = bs T2 := by rw [hT2, bs_append]
      have u1 : (bs p1).size = p1.length := bs_size _
      have u2 : (bs p2).size = p2.length := bs_size _
      have u3 : (bs T1).size = p1.length + p2.length := by rw [bs_size, hT1]; simp
      have u4 : (bs p3).size = p3.length := bs_size _
      have v1 : ¬ (9223372036854775807 < (bs p1).size + (bs p2).size) := by omega
      have v2 : ¬ (9223372036854775807 < (bs T1).size + (bs p3).size) := by omega
      have HTT : Hid (T2 = Rc.text z) := Lib.hid (by rw [HTX.out, hT2, hT1, List.append_assoc])
      clear hT1 hT2 ht c0 c1 c2 hzr u1 u2 u3 u4
      go_upto_region 10 with fail
      go_region_held3 (fun wx => wx.cell? ⟨w.heap.size, 0, none⟩ = some (.string (bs z.1)) ∧ wx.cell? ⟨w.heap.size, 2, none⟩ = some (.slice zA' z.2.2.length zp')) (first
          | (exact HS.out _ j4) | (exact HS.out _ j3) | (exact HS.out _ j2) | (exact HS.out _ j1)
          | (exact HS.out _ (Below.refl _ _).drew)
          | (exact HS.out _ (Below.refl _ _))) (first
        | (go_at_call 14; have y9 := j3; refine (HZ.out _ j3).mono ?_; rintro e x4 ⟨rfl, b1⟩; have j4 : Below wr.heap.size wr x4 := below_via j3 b1; clear b1; dsimp only)
        | (go_at_call 31; refine (HFI.out _ j2).mono ?_; rintro e x3 ⟨rfl, b1⟩; have j3 : Below wr.heap.size wr x3 := below_via j2 b1; clear b1; dsimp only)
        | (go_at_call 14; have y9 := j1; refine (HY.out _ j1).mono ?_; rintro e x2 ⟨rfl, b1⟩; have j2 : Below wr.heap.size wr x2 := below_via j1 b1; clear b1; dsimp only)
        | (go_at_call 14; refine (HX.out _ (Below.refl _ _).drew).mono ?_; rintro e x1 ⟨rfl, b1⟩; have j1 : Below wr.heap.size wr x1 := below_via (Below.refl _ _).drew b1; clear b1; dsimp only))
      all_goals (go_wp2_with fail)
      all_goals go_ret
      all_goals exact ⟨by rw [← HTT.out]; rfl, hbw.trans (j4.mono hbw.size)⟩
end Go.Proofs.YtiogmegdkfnkkaaGreatDoor
namespace Go.Proofs.YtiogmegdkfnkkaaGreatDoor
open Go.RowKit Tx

theorem right_b {q : Bool} (v : Value) (l : List Rc.Rec) (w : World) (hr : RowR w w.heap.size v l) (hn : l.length < 1000000) (hok : ∀ x ∈ l, RecOk x ∧ x.2.1.length < 1000000) (hq : Rc.rightR l = q) :
    Calls Tryz.prog 10 #[v] w fun e w' => e = .returned (.bool q) ∧ Below w.heap.size w w' := by
  subst hq
  exact right_any v l w hr hn hok
theorem bytes_take (l : List Rc.Rec) (k : Nat) (h : k < l.length) : Rc.bytes (l.take (k + 1)) = Rc.bytes (l.take k) ++ Wr.put (Rc.text l[k]) := by
  rw [List.take_succ_eq_append_getElem h, Rc.bytes_snoc]
theorem bytes_len (l : List Rc.Rec) (h : ∀ x ∈ l, Rc.mayR x = true) : (Rc.bytes l).length ≤ 13 + 320008 * l.length := by
  induction l using Tx.snoc_ind with
  | nil =>
    have h1 := Rc.put_lt Rc.stet1 (by decide)
    have h2 : Rc.stet1.length = 5 := rfl
    have h3 : Rc.bytes [] = Wr.put Rc.stet1 := by simp [Rc.bytes]
    rw [h3]
    omega
  | snoc l x ih =>
    rw [Rc.bytes_snoc, List.length_append, List.length_append]
    have h1 := ih (fun y hy => h y (by simp [hy]))
    have h2 := (Rc.text_parts (h x (by simp))).2.2.2
    have h3 := Rc.put_lt (Rc.text x) (by omega)
    simp only [List.length_cons, List.length_nil]
    omega
/-- What Encode returns. -/
def encV (l : List Rc.Rec) : Value := match Rc.enc l with
  | .ok s => .tuple #[.string (bs s), .int .i64 0]
  | .error e => .tuple #[.string (bs []), .int .i64 (e : Nat)]
theorem encV_no {l : List Rc.Rec} (h : Rc.rightR l = false) : encV l = .tuple #[.string ⟨#[]⟩, .int .i64 5] := by
  unfold encV Rc.enc
  rw [h]
  rfl
theorem encV_yes {l : List Rc.Rec} (h : Rc.rightR l = true) : encV l = .tuple #[.string (bs (Rc.bytes l)), .int .i64 0] := by
  unfold encV Rc.enc
  rw [h]
  rfl
set_option maxRecDepth 100000 in
set_option maxHeartbeats 8000000 in
theorem enc_any (v : Value) (l : List Rc.Rec) (w : World) (hr : RowR w w.heap.size v l) (hn : l.length < 1000000) (hok : ∀ x ∈ l, RecOk x ∧ x.2.1.length < 1000000) (hg : Gl w) :
    Calls Tryz.prog 5 #[v] w fun e w' => e = .returned (encV l) ∧ Below w.heap.size w w' := by
  cases hq : Rc.rightR l with
  | false =>
    have hcon := right_b v l w hr hn hok hq
    rw [encV_no hq]
    clear hr hok hg hq
    go_enter Tryz.func5, Tryz.ntmps5
    go_wp2_with (go_at_call 10; refine hcon.mono ?_; rintro e w' ⟨rfl, hb'⟩)
    go_ret2
    exact ⟨rfl, hb'⟩
  | true =>
    have hcon := right_b v l w hr hn hok hq
    rw [encV_yes hq]
    obtain ⟨hmay, hl12⟩ := Rc.rightR_ok hq
    obtain ⟨A, cap, rfl, c1, c2, c3⟩ := hr.shape
    have HC := Lib.hid c3
    have HG := Lib.hid hg
    have HM := Lib.hid hmay
    have hpv := fun wx (hb : Below w.heap.size w wx) => wPut_any Rc.stet1 wx (by decide) (HG.out.below hb)
    have HPV := Lib.hid hpv
    clear c3 hr hok hg hq hpv hmay
    have hbyt0 : Rc.bytes (l.take 0) = Wr.put Rc.stet1 := by simp [Rc.bytes]
    go_enter Tryz.func5, Tryz.ntmps5
    go_wp2_with (first
      | (go_at_call 10; refine hcon.mono ?_; rintro e w1 ⟨rfl, hb1⟩)
      | (go_at_call 14; refine (HPV.out _ hb1).mono ?_; rintro e w2 ⟨rfl, hb2⟩))
    have hb12 := hb1.trans (hb2.mono hb1.size)
    clear hcon
    go_loopw [4, 13] (fun s i wr => ∃ k : Nat, k ≤ l.length ∧ i = .int .i64 k ∧ s = vs (Rc.bytes (l.take k)) ∧ Below w.heap.size w wr) (fun _ i _ => l.length - (RowKit.intOf i).toNat)
    case atStart => exact ⟨0, Nat.zero_le _, rfl, by rw [hbyt0], hb12⟩
    case round =>
      clear hb12 hb2 hb1 hbyt0
      obtain ⟨k, hk, rfl, rfl, hbel⟩ := hrel
      have hle := hbel.size
      by_cases hlt : k < l.length
      · obtain ⟨b, off, rfl, hbl, ⟨x0, r1, r2⟩, ⟨j1, j2, j3⟩, hrec⟩ := HC.out k hlt
        have HT := Lib.hid (bytes_take l k hlt)
        have hmx := HM.out _ (List.getElem_mem hlt)
        have hlen := bytes_len (l.take k) (fun x hx => HM.out x (List.mem_of_mem_take hx))
        have hlk : (l.take k).length ≤ 12 := by simp; omega
        generalize l[k] = x at *
        obtain ⟨B1, p1, B2, p2, hr3⟩ := hrec.rows
        injection hr3 with e1 e2
        injection e2 with e2 e3
        subst e1 e2 e3
        simp only at j1 j2 j3
        have k1 := (hbel.cell (p := ⟨b, off + k * 3, none⟩) hbl).trans j1
        have k2 := (hbel.cell (p := ⟨b, off + k * 3 + 1, none⟩) hbl).trans j2
        have k3 := (hbel.cell (p := ⟨b, off + k * 3 + 2, none⟩) hbl).trans j3
        clear j1 j2 j3
        have i0 : (0 : Int) ≤ (k : Int) := by omega
        have i1 : (k : Int) < (l.length : Int) := by omega
        have hal : Below wr.heap.size wr (wr.alloc (.cells #[.string (bs x.1), .slice B1 x.2.1.length p1, .slice B2 x.2.2.length p2] 42)) := (Below.refl _ _).alloc (Nat.le_refl _) _
        have hba := hbel.trans (hal.mono hle)
        have htx := text_any (x.1, .slice B1 x.2.1.length p1, .slice B2 x.2.2.length p2) x (wr.alloc (.cells #[.string (bs x.1), .slice B1 x.2.1.length p1, .slice B2 x.2.2.length p2] 42)) (((hrec.below hbel (Nat.le_refl _)).more hbel.size).step hal) hmx (HG.out.below hba)
        simp only at htx
        have h1 := (Rc.text_parts hmx).2.2.2
        have HPT := Lib.hid (fun wx (hb : Below w.heap.size w wx) => wPut_any (Rc.text x) wx (by omega) (HG.out.below hb))
        have h3 := Rc.put_lt (Rc.text x) (by omega)
        clear hrec hmx
        generalize Wr.put (Rc.text x) = pt at *
        generalize hacc : Rc.bytes (l.take k) = acc at *
        obtain ⟨T1, hT1⟩ : ∃ T, T = acc ++ pt := ⟨_, rfl⟩
        have o1 : bs acc ++ bs pt = bs T1 := by rw [hT1, bs_append]
        have u1 : (bs acc).size = acc.length := bs_size _
        have u2 : (bs pt).size = pt.length := bs_size _
        have v1 : ¬ (9223372036854775807 < (bs acc).size + (bs pt).size) := by omega
        have HTT : Hid (T1 = Rc.bytes (l.take (k + 1))) := Lib.hid (by rw [HT.out, hT1])
        clear hT1 hacc
        go_wp2_with (first
          | (go_at_call 15; refine htx.mono ?_; rintro e w3 ⟨rfl, hb3⟩; have hb4 := hba.trans (hb3.mono hba.size))
          | (go_at_call 14; refine (HPT.out _ hb4).mono ?_; rintro e w5 ⟨rfl, hb5⟩))
        go_roundw
        case rel => exact ⟨k + 1, by omega, by go_num, by rw [← HTT.out], hb4.trans (hb5.mono hb4.size)⟩
        case measure => simp [RowKit.intOf]; omega
      · obtain rfl : k = l.length := by omega
        have HT : Hid (l.take l.length = l) := Lib.hid List.take_length
        go_wp2_with fail
        go_ret2
        exact ⟨by rw [HT.out]; rfl, hbel⟩
end Go.Proofs.YtiogmegdkfnkkaaGreatDoor
namespace Go.Proofs.YtiogmegdkfnkkaaGreatDoor
open Go.RowKit Tx

theorem grown_of_below {w w' : World} (h : Below w.heap.size w w') (r : Option Nat) : w.grownBy w' r := ⟨h.os, h.tape, h.output, h.size, fun k hk _ => h.block k hk⟩
theorem grown_trans {w w1 w2 : World} {r : Option Nat} (h : w.grownBy w1 r) (h2 : w1.grownBy w2 r) : w.grownBy w2 r := ⟨h2.os.trans h.os, h2.tape.trans h.tape, h2.output.trans h.output, Nat.le_trans h.size h2.size, fun k hk hne => (h2.block k (Nat.lt_of_lt_of_le hk h.size) hne).trans (h.block k hk hne)⟩
theorem allP_eq (q : Bool) (s : Bs) (e : Nat) (h : Wr.all s = .ok (allL s)) : Rc.allP q s e = if (allL s).length % e = 0 then (q, allL s) else (true, []) := by
  unfold Rc.allP
  rw [h]
theorem allP_err (q : Bool) (s : Bs) (e x : Nat) (h : Wr.all s = .error x) : Rc.allP q s e = (true, []) := by
  unfold Rc.allP
  rw [h]
theorem row_nil0 (w : World) (B : Nat) : Row vs w B (.slice none 0 0) ([] : List Bs) := Row.nil _ _ _ _ _ (by decide)
theorem grown_setCell (w : World) (b j : Nat) (v : Value) : w.grownBy (w.setCell ⟨b, j, none⟩ v) (some b) := ⟨rfl, rfl, rfl, by simp [World.setCell], fun k _ hne => setCell_oth _ _ _ _ _ (fun e => hne (by rw [e]))⟩
theorem allL_le (X : Bs) : 3 * (allL X).length ≤ X.length := by
  unfold allL
  match h : Wr.all X with
  | .error y => simp
  | .ok L =>
    obtain ⟨h1, _⟩ := Wr.all_inv X.length X L (Nat.le_refl _) h
    have := puts_len L
    rw [← h1] at this
    exact this
def AllOwn (s : Bs) (w : World) (e : Ending) (w' : World) : Prop :=
  Below w.heap.size w w' ∧ ∃ v, e = .returned (.tuple #[v, .int .i64 (allE s : Nat)]) ∧ Row vs w' w'.heap.size v (allL s) ∧ ∀ b, v.ownBlock = some b → w.heap.size ≤ b
set_option maxHeartbeats 4000000 in
theorem all_own (s : Bs) (w : World) (hs : s.length ≤ 1000000) (hg : ErrT w) :
    Calls Tryz.prog 34 #[vs s] w (AllOwn s w) := by
  have hz := bs_size s
  have HG := Lib.hid hg
  have hlt0 : 1 < w.heap.size := World.block_lt_of_cell? w ⟨1, 0, none⟩ (by rw [hg])
  clear hg
  go_enter Tryz.func34, Tryz.ntmps34
  go_wp2_with fail
  go_loopw [4, 5] (fun o i wr => ∃ (p : Nat) (l : List Bs), p ≤ s.length ∧ i = .int .i64 p ∧ l.length ≤ p ∧ Txs w.heap.size wr o l ∧ Below w.heap.size w wr ∧ AllRel s p l) (fun _ i _ => s.length - (RowKit.intOf i).toNat)
  case atStart => exact ⟨0, [], Nat.zero_le _, rfl, Nat.le_refl _, Txs.nil _ _, Below.refl _ _, AllRel.start s⟩
  case round =>
    obtain ⟨p, l, hp, rfl, hll, ho, hbel, hr⟩ := hrel
    have hle := hbel.size
    have HE : Hid (ErrT wr) := Lib.hid ((hbel.cell (p := ⟨1, 0, none⟩) hlt0).trans HG.out)
    by_cases hlt : p < s.length
    · have hpi : (p : Int) < ((bs s).size : Int) := by omega
      have HC := Lib.hid (wGet_any s p 999999 wr (by omega) ⟨by omega, by omega⟩ ⟨by omega, by omega⟩ HE.out)
      have HR := Lib.hid hr
      have HO := Lib.hid ho
      clear hr ho
      match hgr : getR s p 999999 with
      | .error y =>
        have hy := getR_err hgr
        rw [hgr] at HC
        have hy0 : ((y : Int) != 0) = true := by simp; omega
        have HQ := Lib.hid (AllRel.err HR.out hlt hgr)
        clear hgr hy
        go_wp2_with fail
        refine HC.out.mono ?_
        rintro e w2 ⟨rfl, hb⟩
        unfold gX gQ gE
        go_wp2_with fail
        go_ret2
        exact ⟨hbel.trans (hb.mono hle), .slice none 0 0, by rw [HQ.out.2]; rfl, by rw [HQ.out.1]; exact Row.nil _ _ _ _ _ (Nat.zero_le _), fun b hb => by cases hb⟩
      | .ok (x, q) =>
        have HQ := Lib.hid (AllRel.step HR.out hp hgr)
        obtain ⟨q1, q2, _⟩ := getR_ok hp hgr
        rw [hgr] at HC
        clear hgr
        go_wp2_with fail
        refine HC.out.mono ?_
        rintro e w2 ⟨rfl, hb⟩
        unfold gX gQ gE
        have HO2 := Lib.hid (HO.out.below hb)
        have hb2 : Below w.heap.size w w2 := hbel.trans (hb.mono hle)
        have hle2 := hb2.size
        go_wp2_with (at_builtin; refine app_text rfl (.tmp 23) (.tmp 25) rfl w.heap.size _ l x rfl rfl HO2.out hle2 (by omega) ?_; intro v' w4 h8 h9 h10)
        go_roundw
        case rel => exact ⟨q, l ++ [x], q2, rfl, by simp; omega, h8, hb2.trans h9, HQ.out⟩
        case measure => simp [RowKit.intOf]; omega
    · obtain rfl : p = s.length := by omega
      have HQ := Lib.hid (AllRel.stop hr)
      clear hr
      go_wp2_with fail
      go_ret2
      exact ⟨hbel, _, by rw [HQ.out.2]; rfl, by rw [HQ.out.1]; exact ho.row, fun b hb => (World.ownsRow.lt ho b hb).1⟩

/-- What the reader tells. -/
def RdPost (w : World) (B : Nat) (lv : Value) (r : Bool × List Bs) (e : Ending) (w' : World) : Prop :=
  ∃ v, e = .returned v ∧ Row vs w' w'.heap.size v r.2 ∧ (∀ b, blkOf v = some b → w.heap.size ≤ b) ∧ w'.heap[B]? = some (.cells #[.bool r.1, lv] 57 (0, 0)) ∧ w.grownBy w' (some B)
set_option maxRecDepth 100000 in
set_option maxHeartbeats 4000000 in
theorem rd_any (B : Nat) (q : Bool) (lv : Value) (s : Bs) (each : Nat) (hE : each = 1 ∨ each = 2 ∨ each = 3) (w : World) (hB : w.heap[B]? = some (.cells #[.bool q, lv] 57 (0, 0))) (hs : s.length ≤ 1000000) (hg : ErrT w) :
    Calls Tryz.prog 19 #[.pointer (some ⟨B, 0, none⟩), .string (bs s), .int .i64 (each : Nat)] w (RdPost w B lv (Rc.allP q s each)) := by
  have HA := Lib.hid (all_own s w hs hg)
  have hBl := lt_of_block hB
  clear hg
  match ha : Wr.all s with
  | .error x =>
    have hE0 : allE s = x := by unfold allE; rw [ha]
    have hne := all_errne s s.length x (Nat.le_refl _) ha
    have hr := (allP_err q s each x ha)
    have hx : ((x : Int) != 0) = true := by simp; omega
    rw [hr]
    clear hr ha hE
    go_enter Tryz.func19, Tryz.ntmps19
    go_wp2_with fail
    refine HA.out.mono ?_
    rintro e w1 ⟨hb, v, rfl, hrow, hvb⟩
    have hB1 := (hb.block B hBl).trans hB
    obtain ⟨a1, a2, f1, f2⟩ := cells2 hB1
    rw [hE0]
    go_wp2_with fail
    go_ret
    refine ⟨_, rfl, row_nil0 _ _, (fun b h => by cases h), cells_setCell hB1 _, ?_⟩
    exact grown_trans (grown_of_below hb _) (grown_setCell w1 B 0 _)
  | .ok l0 =>
    have hE0 : allE s = 0 := by unfold allE; rw [ha]
    have hL : Wr.all s = .ok (allL s) := by unfold allL; rw [ha]
    rw [allP_eq q s each hL]
    have HLL := allL_le s
    clear hL ha
    obtain ⟨l, hl⟩ : ∃ l, l = allL s := ⟨_, rfl⟩
    have HL := Lib.hid hl
    rw [← hl]
    rw [← hl] at HLL
    have hlb : l.length < 1000000 := by omega
    clear hl
    clear HLL
    by_cases hm : l.length % each = 0
    · rw [if_pos hm]
      have hrem : ((l.length : Int) % (each : Int) != 0) = false := by
        have : ((l.length % each : Nat) : Int) = 0 := by rw [hm]; rfl
        rw [Int.natCast_emod] at this
        rw [this]; rfl
      have he0 : ((each : Int) == 0) = false := by rcases hE with rfl | rfl | rfl <;> rfl
      have he1 : ((each : Int) = 0) = False := by rcases hE with rfl | rfl | rfl <;> simp
      have he2 : (each : Int) ≠ 0 := by rcases hE with rfl | rfl | rfl <;> simp
      clear hE hm
      go_enter Tryz.func19, Tryz.ntmps19
      go_wp2_with fail
      refine HA.out.mono ?_
      rintro e w1 ⟨hb, v, rfl, hrow, hvb⟩
      rw [← HL.out] at hrow
      obtain ⟨A, cap, rfl, h1, h2, h3⟩ := hrow.shape
      have HR := Lib.hid hrow
      clear h3 hrow
      rw [hE0]
      go_wp2_with fail
      go_ret
      refine ⟨_, rfl, HR.out, ?_, (hb.block B hBl).trans hB, grown_of_below hb _⟩
      exact fun b hbl => hvb b (own_blk hbl)
    · rw [if_neg hm]
      have hrem : ((l.length : Int) % (each : Int) != 0) = true := by
        have : ((l.length % each : Nat) : Int) ≠ 0 := by omega
        rw [Int.natCast_emod] at this
        simpa using this
      have he0 : ((each : Int) == 0) = false := by rcases hE with rfl | rfl | rfl <;> rfl
      have he1 : ((each : Int) = 0) = False := by rcases hE with rfl | rfl | rfl <;> simp
      have he2 : (each : Int) ≠ 0 := by rcases hE with rfl | rfl | rfl <;> simp
      clear hE hm
      go_enter Tryz.func19, Tryz.ntmps19
      go_wp2_with fail
      refine HA.out.mono ?_
      rintro e w1 ⟨hb, v, rfl, hrow, hvb⟩
      rw [← HL.out] at hrow
      obtain ⟨A, cap, rfl, h1, h2, h3⟩ := hrow.shape
      clear h3 hrow
      have hB1 := (hb.block B hBl).trans hB
      obtain ⟨a1, a2, f1, f2⟩ := cells2 hB1
      rw [hE0]
      go_wp2_with fail
      go_ret
      refine ⟨_, rfl, row_nil0 _ _, (fun b h => by cases h), cells_setCell hB1 _, ?_⟩
      exact grown_trans (grown_of_below hb _) (grown_setCell w1 B 0 _)
def ParseOwn (s : Bs) (w : World) (e : Ending) (w' : World) : Prop :=
  Below w.heap.size w w' ∧ ∃ v, e = .returned (.tuple #[v, .int .i64 (parE s : Nat)]) ∧ RowC 2 ff w' w'.heap.size v (parL s) ∧ ∀ b, blkOf v = some b → w.heap.size ≤ b
set_option maxRecDepth 100000 in
set_option maxHeartbeats 4000000 in
theorem wParse_own (s : Bs) (w : World) (hs : s.length ≤ 1000000) (hg : Gl w) :
    Calls Tryz.prog 35 #[vs s] w (ParseOwn s w) := by
  have HA := Lib.hid (all_any s w hs hg.et)
  clear hg
  go_enter Tryz.func35, Tryz.ntmps35
  go_wp2_with fail
  refine HA.out.mono ?_
  rintro e w1 ⟨hb, v, rfl, hrow⟩
  match hall : Wr.all s with
  | .error y =>
    have hy := all_errne s s.length y (Nat.le_refl _) hall
    have hye : allE s = y := by unfold allE; rw [hall]
    have hyl : allL s = [] := by unfold allL; rw [hall]
    have HP : Hid (parE s = y ∧ parL s = []) := Lib.hid (by unfold parE parL Wr.parse; rw [hall]; exact ⟨rfl, rfl⟩)
    have hy0 : ((y : Int) != 0) = true := by simp; omega
    rw [hye]
    obtain ⟨A, cap, rfl, _⟩ := hrow.shape
    clear hrow hye hyl hall hy
    go_wp2_with fail
    go_ret2
    exact ⟨hb, .slice none 0 0, by rw [HP.out.1]; rfl, by rw [HP.out.2]; exact row_none _ _, fun b h => by cases h⟩
  | .ok L =>
    obtain ⟨hL1, hL2⟩ := Wr.all_inv s.length s L (Nat.le_refl _) hall
    have hll := puts_len L
    rw [← hL1] at hll
    have hye : allE s = 0 := by unfold allE; rw [hall]
    have hyl : allL s = L := by unfold allL; rw [hall]
    rw [hye]
    rw [hyl] at hrow
    have HP : Hid (Wr.parse s = if L.length % 2 = 1 then .error 5 else if Wr.right (Wr.pairs L) = true then .ok (Wr.pairs L) else .error 5) := Lib.hid (by unfold Wr.parse; rw [hall])
    have HL2 := Lib.hid hL2
    obtain ⟨A, cap, rfl, q1, q2, q3⟩ := hrow.shape
    have HC := Lib.hid q3
    clear hrow hye hyl hall hL1 hL2 q3
    have hpl := pairs_len L
    by_cases hodd : L.length % 2 = 1
    · have HQ : Hid (parE s = 5 ∧ parL s = []) := Lib.hid (by unfold parE parL; rw [HP.out, if_pos hodd]; exact ⟨rfl, rfl⟩)
      have ho : (((L.length : Int).tmod 2) != 0) = true := by
        rw [Int.tmod_eq_emod_of_nonneg (by omega)]
        have : ((L.length : Int) % 2) = 1 := by omega
        rw [this]; rfl
      have ho2 : ((L.length : Int) % 2 != 0) = true := by
        have : ((L.length : Int) % 2) = 1 := by omega
        rw [this]; rfl
      clear hodd hpl
      go_wp2_with fail
      go_ret2
      exact ⟨hb, .slice none 0 0, by rw [HQ.out.1]; rfl, by rw [HQ.out.2]; exact row_none _ _, fun b h => by cases h⟩
    · have ho : (((L.length : Int).tmod 2) != 0) = false := by
        rw [Int.tmod_eq_emod_of_nonneg (by omega)]
        have : ((L.length : Int) % 2) = 0 := by omega
        rw [this]; rfl
      have ho2 : ((L.length : Int) % 2 != 0) = false := by
        have : ((L.length : Int) % 2) = 0 := by omega
        rw [this]; rfl
      have hev : Hid (L.length % 2 = 0) := Lib.hid (by omega)
      have hod := Lib.hid hodd
      clear hodd
      obtain ⟨wq, rfl⟩ : ∃ wq, wq = w1 := ⟨_, rfl⟩
      have hle1 := hb.size
      have HPL := Lib.hid hpl
      clear hpl
      go_wp2_with fail
      go_loopw [6, 7] (fun o i wr => ∃ j : Nat, 2 * j ≤ L.length ∧ i = .int .i64 (2 * j : Nat) ∧ OwnC 46 2 ff wq.heap.size wr o ((Wr.pairs L).take j) ∧ Below wq.heap.size wq wr) (fun _ i _ => L.length - (RowKit.intOf i).toNat)
      case atStart => exact ⟨0, by omega, rfl, OwnC.nil _ _ _ _ _, Below.refl _ _⟩
      case round =>
        obtain ⟨j, hj, rfl, hown, hbel⟩ := hrel
        have hle := hbel.size
        have hol : ((Wr.pairs L).take j).length ≤ j := by simp; omega
        by_cases hlt : 2 * j < L.length
        · have h21 : 2 * j + 1 < L.length := by have := hev.out; omega
          obtain ⟨b, off, rfl, hbl, hc⟩ := HC.out (by rintro rfl; simp at hlt)
          have c0 := (hbel.cell (p := ⟨b, off + 2 * j, none⟩) hbl).trans (hc (2 * j) hlt)
          have c1 := (hbel.cell (p := ⟨b, off + (2 * j + 1), none⟩) hbl).trans (hc (2 * j + 1) h21)
          have HS := Lib.hid (pairs_step L j h21)
          generalize L[2 * j] = x at *
          generalize L[2 * j + 1] = y at *
          obtain ⟨k, hk⟩ : ∃ k, k = 2 * j := ⟨_, rfl⟩
          rw [← hk] at c0 c1 hlt h21 hj ⊢
          have HK := Lib.hid hk
          have hkj : k ≤ 1000000 := by omega
          have hjk : j < 1000000 := by omega
          have HO := Lib.hid hown
          clear hk hc hown
          have i0 : (0 : Int) ≤ (k : Int) := by omega
          have i1 : (k : Int) < (L.length : Int) := by omega
          have i2 : (k : Int) + 1 < (L.length : Int) := by omega
          have i3 : (0 : Int) ≤ (k : Int) + 1 := by omega
          have hw : IntKind.i64.wrap ((k : Int) + 1) = (k : Int) + 1 := IntWalk.i64_in _ (by omega)
          have ht : ((k : Int) + 1).toNat = k + 1 := by omega
          go_upto_region 10 with fail
          have hbase := hle
          go_region_held3 (fun wx => wx.cell? ⟨b, off + k, none⟩ = some (.string (bs x)) ∧ wx.cell? ⟨b, off + (k + 1), none⟩ = some (.string (bs y))) (first | go_keep | exact ⟨(h9.cell (p := ⟨b, off + k, none⟩) hbl).trans (Lib.cell?_alloc_marked _ c0), (h9.cell (p := ⟨b, off + (k + 1), none⟩) hbl).trans (Lib.cell?_alloc_marked _ c1)⟩) ((refine step_file (by rfl) (.tmp 26) (.tmp 37) (by rfl) wq.heap.size _ ((Wr.pairs L).take j) (x, y) (by rfl) wr.heap.size (by rfl) (heap_alloc_new _ _) (HO.out.below ((Below.refl _ _).alloc (Nat.le_refl _) _).drew) (by simp; omega) (by omega) ?_; intro v' w4 h8 h9 h10))
          go_wp2_with fail
          go_roundw
          case rel => exact ⟨j + 1, by have := HK.out; omega, by have := HK.out; congr 1; omega, by rw [HS.out]; exact h8, (hbel.alloc hle _).drew.trans h9⟩
          case measure => simp [RowKit.intOf]; omega
        · have hjl : (Wr.pairs L).length ≤ j := by have := hev.out; have := HPL.out; omega
          have HT : Hid ((Wr.pairs L).take j = Wr.pairs L) := Lib.hid (List.take_of_length_le hjl)
          rw [HT.out] at hown
          obtain ⟨k, hk⟩ : ∃ k, k = 2 * j := ⟨_, rfl⟩
          have hnl : ¬ k < L.length := by omega
          have hnli : (L.length : Int) ≤ (k : Int) := by omega
          rw [← hk]
          clear hk hlt hjl
          have HR := Lib.hid (fRight_any _ (Wr.pairs L) wr (hown.rowC ff_length) (fun f hf => by
            obtain ⟨h1, h2⟩ := pairs_mem L f hf
            have h3 := HL2.out _ h1
            have h4 := HL2.out _ h2
            exact ⟨by simp only [maxLen]; omega, by simp only [maxLen]; omega⟩))
          have HO := Lib.hid hown
          clear hown
          by_cases hrt : Wr.right (Wr.pairs L) = true
          · have HQ : Hid (parE s = 0 ∧ parL s = Wr.pairs L) := Lib.hid (by unfold parE parL; rw [HP.out, if_neg hod.out, if_pos hrt]; exact ⟨rfl, rfl⟩)
            rw [hrt] at HR
            clear hrt
            go_wp2_with fail
            refine HR.out.mono ?_
            rintro e w3 ⟨rfl, hb3⟩
            go_wp2_with fail
            go_ret2
            exact ⟨below_via hb (below_via hbel hb3), _, by rw [HQ.out.1]; rfl, by rw [HQ.out.2]; exact (HO.out.below hb3).rowC ff_length, fun b h => Nat.le_trans hb.size (HO.out.lt b (own_blk h)).1⟩
          · have HQ : Hid (parE s = 5 ∧ parL s = []) := Lib.hid (by unfold parE parL; rw [HP.out, if_neg hod.out, if_neg hrt]; exact ⟨rfl, rfl⟩)
            have hrt : Wr.right (Wr.pairs L) = false := by simpa using hrt
            rw [hrt] at HR
            clear hrt
            go_wp2_with fail
            refine HR.out.mono ?_
            rintro e w3 ⟨rfl, hb3⟩
            go_wp2_with fail
            go_ret2
            exact ⟨below_via hb (below_via hbel hb3), .slice none 0 0, by rw [HQ.out.1]; rfl, by rw [HQ.out.2]; exact row_none _ _, fun b h => by cases h⟩
end Go.Proofs.YtiogmegdkfnkkaaGreatDoor
