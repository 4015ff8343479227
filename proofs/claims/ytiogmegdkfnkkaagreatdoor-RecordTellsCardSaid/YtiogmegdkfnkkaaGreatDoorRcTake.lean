/- (*base).take: a record's bytes. -/
import Derived.Test.YtiogmegdkfnkkaaGreatDoorQ9
import Derived.Test.YtiogmegdkfnkkaaGreatDoorQ6
namespace Go.Proofs.YtiogmegdkfnkkaaGreatDoor
open Go.RowKit Tx

/-- The records of a database whose reader is block B: they lead to nothing in it. -/
def OwnB (B : Nat) (w : World) (v : Value) (l : List Rc.Rec) : Prop :=
  ∃ rs : List Raw, OwnC 42 3 rf (B + 1) w v rs ∧ rs.length = l.length ∧ ∀ i (h : i < rs.length) (h' : i < l.length), RecIs w w.heap.size rs[i] l[i] ∧ Away v.ownBlock rs[i] l[i] ∧ Away (some B) rs[i] l[i]
theorem OwnB.nil (B : Nat) (w : World) : OwnB B w (.slice none 0 0) [] := ⟨[], OwnC.nil _ _ _ _ _, rfl, fun i h => absurd h (by simp)⟩
theorem OwnB.row {B : Nat} {w : World} {v : Value} {l : List Rc.Rec} (h : OwnB B w v l) : RowR w w.heap.size v l := by
  obtain ⟨rs, h1, h2, h3⟩ := h
  exact ⟨rs, h1.rowC rf_length, h2, fun i h h' => (h3 i h h').1⟩
theorem OwnB.lt {B : Nat} {w : World} {v : Value} {l : List Rc.Rec} (h : OwnB B w v l) : ∀ k, v.ownBlock = some k → B + 1 ≤ k ∧ k < w.heap.size := by
  obtain ⟨rs, h1, _⟩ := h
  exact h1.lt
theorem OwnB.keep {B : Nat} {w w' : World} {v : Value} {l : List Rc.Rec} (h : OwnB B w v l) (hg : w.grownBy w' (some B)) : OwnB B w' v l := by
  obtain ⟨rs, h1, h2, h3⟩ := h
  refine ⟨rs, h1.heap fun k hk => hg.block k (h1.lt k hk).2 (fun e => by have := (h1.lt k hk).1; injection e with e; omega), h2, fun i h h' => ?_⟩
  obtain ⟨a, b, c⟩ := h3 i h h'
  refine ⟨a.blk hg.size fun k hk hor => hg.block k hk (fun e => ?_), b, c⟩
  injection e with e
  subst e
  rcases hor with ⟨hne, h⟩ | ⟨hne, h⟩
  · exact (c k rfl).1 hne h
  · exact (c k rfl).2 hne h
theorem OwnB.snoc {B : Nat} {w w' : World} {v v' : Value} {l : List Rc.Rec} {r : Raw} {x : Rc.Rec} {rs : List Raw} (_hB : B < w.heap.size)
    (h3 : ∀ i (h : i < rs.length) (h' : i < l.length), RecIs w w.heap.size rs[i] l[i] ∧ Away v.ownBlock rs[i] l[i] ∧ Away (some B) rs[i] l[i]) (h2 : rs.length = l.length)
    (hx : RecIs w w.heap.size r x) (hr : Away v.ownBlock r x) (hrB : Away (some B) r x)
    (ho : OwnC 42 3 rf (B + 1) w' v' (rs ++ [r])) (hg : w.grownBy w' v.ownBlock) (hv : ∀ b, v'.ownBlock = some b → v.ownBlock = some b ∨ w.heap.size ≤ b) : OwnB B w' v' (l ++ [x]) := by
  obtain ⟨rs', k1, k2, k3⟩ := OwnR.snoc (fun i h h' => ⟨(h3 i h h').1, (h3 i h h').2.1⟩) h2 hx hr ho hg hv
  have ha : ∀ i (h : i < (rs ++ [r]).length) (h' : i < (l ++ [x]).length), Away (some B) (rs ++ [r])[i] (l ++ [x])[i] := by
    intro i h h'
    by_cases hi : i < rs.length
    · have e1 : (rs ++ [r])[i] = rs[i] := List.getElem_append_left hi
      have e2 : (l ++ [x])[i] = l[i]'(by omega) := List.getElem_append_left (by omega)
      rw [e1, e2]
      exact (h3 i hi (by omega)).2.2
    · have hil : i = rs.length := by simp at h; omega
      subst hil
      have e1 : (rs ++ [r])[rs.length] = r := by simp
      have e2 : (l ++ [x])[rs.length] = x := by simp [h2]
      rw [e1, e2]
      exact hrB
  have key : ∀ (q : Raw) (y : Rc.Rec), RecIs w w.heap.size q y → Away v.ownBlock q y → RecIs w' w'.heap.size q y ∧ Away v'.ownBlock q y := by
    intro q y hq ha
    refine ⟨hq.blk hg.size fun b hb hbl => hg.block b hb (fun e => ?_), fun b hb => ?_⟩
    · rcases hbl with ⟨hne, hbl⟩ | ⟨hne, hbl⟩
      · exact (ha b e.symm).1 hne hbl
      · exact (ha b e.symm).2 hne hbl
    · rcases hv b hb with h4 | h4
      · exact ha b h4
      · refine ⟨fun hne h5 => ?_, fun hne h5 => ?_⟩
        · have := blk_lt hq.reads hne h5; omega
        · have := blk_lt hq.writes hne h5; omega
  refine ⟨rs ++ [r], ho, by simp [h2], fun i h h' => ?_⟩
  by_cases hi : i < rs.length
  · have e1 : (rs ++ [r])[i] = rs[i] := List.getElem_append_left hi
    have e2 : (l ++ [x])[i] = l[i]'(by omega) := List.getElem_append_left (by omega)
    have hB2 := ha i h h'
    rw [e1, e2] at hB2 ⊢
    have := h3 i hi (by omega)
    exact ⟨(key _ _ this.1 this.2.1).1, (key _ _ this.1 this.2.1).2, hB2⟩
  · have hil : i = rs.length := by simp at h; omega
    subst hil
    have e1 : (rs ++ [r])[rs.length] = r := by simp
    have e2 : (l ++ [x])[rs.length] = x := by simp [h2]
    have hB2 := ha rs.length h h'
    rw [e1, e2] at hB2 ⊢
    exact ⟨(key _ _ hx hr).1, (key _ _ hx hr).2, hB2⟩

theorem grown_step {w2 wr wa w4 : World} {X : Nat} (h : w2.grownBy wr (some X)) (ha : Below wr.heap.size wr wa) (h9 : Below w2.heap.size wa w4) (j : Nat) (v : Value) : w2.grownBy (w4.setCell ⟨X, j, none⟩ v) (some X) :=
  ⟨h9.os.trans (ha.os.trans h.os), h9.tape.trans (ha.tape.trans h.tape), h9.output.trans (ha.output.trans h.output), by rw [World.size_setCell]; exact Nat.le_trans h.size (Nat.le_trans ha.size h9.size),
   fun k hk hne => (setCell_oth _ _ _ _ _ (fun e => hne (by rw [e]))).trans ((h9.block k hk).trans ((ha.block k (Nat.lt_of_lt_of_le hk h.size)).trans (h.block k hk hne)))⟩
theorem wpList_seenG {w0 : World} {ops : Array Oper} {rest : List Oper} {o : Oper} {a : Act} {Q : Exit → Act → World → Prop} (t e : TypeId) (ht : Tryz.prog.underlying t = some (.slice e)) (hinf : (Tryz.prog.info? e).map (fun i => (i.zero, i.size, i.bytes)) = some (some (.agg #[.string ⟨#[]⟩, .bool false, .string ⟨#[]⟩]), 3, 40)) (hgd : o.guard = none) (s x : Operand)
    (ho : o.op = .call { callee := .builtin .append, args := #[s, x], argTypes := #[t, t] })
    (base : Nat) (v : Value) (l : List Rc.Seen) (u : Rc.Seen) (hs : a.eval s = v) (g : Nat) (hge : g = w0.heap.size) (hx : a.eval x = .slice (some ⟨g, 0, none⟩) 1 1)
    (hown : OwnC e 3 sf base w0 v l) (hb : base ≤ w0.heap.size) (hl : l.length < 1000000)
    (h : ∀ v' w', OwnC e 3 sf base w' v' (l ++ [u]) → Below base w0 w' → wpList Tryz.prog ops Q rest (a.put o.dst v') w') :
    wpList Tryz.prog ops Q (o :: rest) a (w0.alloc (.cells #[.string (bs u.1), .bool u.2.1, .string (bs u.2.2)] e)) := by
  subst hge
  exact wpList_seenE t e ht hinf hgd s x ho base v l u hs hx hown hb hl h
/-- What the database is, once more was taken. -/
def TakePost (w0 w : World) (lv : Value) (B : Nat) (r : Bool × List Rc.Rec) (e : Ending) (w' : World) : Prop :=
  e = .returned (.tuple #[]) ∧ ∃ lv', w'.heap[B]? = some (.cells #[.bool r.1, lv'] 57 (0, 0)) ∧ OwnB B w' lv' r.2 ∧ Below w0.heap.size w0 w' ∧ w.heap.size ≤ w'.heap.size ∧
    (∀ k, k < w.heap.size → k ≠ B → lv.ownBlock ≠ some k → w'.heap[k]? = w.heap[k]?) ∧ ∀ k, lv'.ownBlock = some k → lv.ownBlock = some k ∨ w.heap.size ≤ k
theorem seensP_step : ∀ (l : List Bs) (j : Nat) (h : 2 * j + 1 < l.length), (Rc.seensP l).take (j + 1) = (Rc.seensP l).take j ++ [Rc.seenP l[2 * j] l[2 * j + 1]]
  | [], j, h => by simp at h
  | [a], j, h => by simp at h
  | a :: b :: r, 0, _ => by simp [Rc.seensP]
  | a :: b :: r, j + 1, h => by
    have ih := seensP_step r j (by simp at h; omega)
    have e1 : (a :: b :: r)[2 * (j + 1)] = r[2 * j]'(by simp at h; omega) := by simp [Nat.mul_add]
    have e2 : (a :: b :: r)[2 * (j + 1) + 1] = r[2 * j + 1]'(by simp at h; omega) := by simp [Nat.mul_add]
    rw [e1, e2]
    simp only [Rc.seensP, List.take_succ_cons, ih, List.cons_append]
theorem seensP_len : ∀ l : List Bs, (Rc.seensP l).length = l.length / 2
  | [] => rfl
  | [a] => by simp [Rc.seensP]
  | a :: b :: r => by simp [Rc.seensP, seensP_len r]; omega
theorem allP_mod (q : Bool) (s : Bs) (e : Nat) : (Rc.allP q s e).2.length % e = 0 := by
  unfold Rc.allP
  split
  · split
    · assumption
    · simp
  · simp
theorem allP_mem (q : Bool) (s : Bs) (e : Nat) : ∀ x ∈ (Rc.allP q s e).2, x.length ≤ 999999 := by
  unfold Rc.allP
  split
  · next l h =>
    split
    · exact (Wr.all_inv s.length s l (Nat.le_refl _) h).2
    · simp
  · simp
theorem allP_le (q : Bool) (s : Bs) (e : Nat) (hs : s.length ≤ 1000000) : (Rc.allP q s e).2.length < 1000000 := by
  unfold Rc.allP
  split
  · next l h =>
    split
    · have := allL_le s
      unfold allL at this
      rw [h] at this
      simp only at this ⊢
      omega
    · simp
  · simp
theorem par_err (s : Bs) : ((parE s : Int) != 0) = Rc.parN s := by
  unfold parE Rc.parN
  match h : Wr.parse s with
  | .ok l => rfl
  | .error e =>
    have : e ≠ 0 := by
      unfold Wr.parse at h
      match ha : Wr.all s with
      | .error y =>
        rw [ha] at h
        injection h with h
        subst h
        exact all_errne s s.length y (Nat.le_refl _) ha
      | .ok l =>
        rw [ha] at h
        simp only at h
        split at h
        · injection h with h; omega
        · split at h
          · cases h
          · injection h with h; omega
    simp; omega
theorem ls3 {α : Type} {l : List α} (h : l.length = 3) : ∃ a b c, l = [a, b, c] := by
  rcases l with _ | ⟨a, _ | ⟨b, _ | ⟨c, _ | ⟨d, cs⟩⟩⟩⟩ <;> simp at h
  exact ⟨a, b, c, rfl⟩
/-- 'out = append(out, x)' to the database's records, x in a block of its own. -/
theorem step_recB {w : World} {ops : Array Oper} {o : Oper} {a : Act} {K : Act → World → Prop} {Q : Exit → Act → World → Prop} {E : Prop} (hgd : o.guard = none) (s x : Operand)
    (ho : o.op = .call { callee := .builtin .append, args := #[s, x], argTypes := #[22, 22] })
    (B : Nat) (v : Value) (l : List Rc.Rec) (r : Raw) (u : Rc.Rec) (hs : a.eval s = v) (g : Nat) (hx : a.eval x = .slice (some ⟨g, 0, none⟩) 1 1)
    (hg : w.heap[g]? = some (.cells #[.string (bs r.1), r.2.1, r.2.2] 42 (0, 0)))
    (hown : OwnB B w v l) (hr : RecIs w w.heap.size r u) (haw : Away v.ownBlock r u) (haB : Away (some B) r u) (hb : B < w.heap.size) (hl : l.length < 1000000)
    (h : ∀ v' w', OwnB B w' v' (l ++ [u]) → w.grownBy w' v.ownBlock → (∃ A n c, v' = .slice A n c) → (∀ k, v'.ownBlock = some k → v.ownBlock = some k ∨ w.heap.size ≤ k) → K (a.put o.dst v') w') :
    if Region.wanted o (yielded ops a.tmps) = true then Oper.wp Tryz.prog o a w K Q else E := by
  obtain ⟨i0, hi0, hz0, hz1, hz2⟩ := info_parts prInfo
  obtain ⟨rs, h1, h2, h3⟩ := hown
  refine step_appN2 hgd s x 22 ho (B + 1) 42 i0 _ 3 64 Tryz.underlying22 hi0 hz0 hz1 hz2 rfl (by decide) v rs.length (rs.flatMap rf) (rf r) rfl (recIs_ones hr) hs g hx hg h1 hb (by simp only [maxLen]; omega) (by omega) ?_
  intro v' w' k1 k2 k3
  have hown' : OwnC 42 3 rf (B + 1) w' v' (rs ++ [r]) := by simpa [OwnC] using k1
  refine h v' w' (OwnB.snoc hb h3 h2 hr haw haB hown' k2 k3) k2 ?_ k3
  obtain ⟨A, c, hv, _⟩ := (hown'.rowC rf_length).shape
  exact ⟨A, _, c, hv⟩
set_option maxRecDepth 100000 in
set_option maxHeartbeats 8000000 in
theorem take_any (w0 : World) (hg : Gl w0) (B : Nat) (q : Bool) (lv : Value) (L : List Rc.Rec) (s : Bs) (w : World) (hw : Below w0.heap.size w0 w) (hw0 : w0.heap.size ≤ B) (hB : w.heap[B]? = some (.cells #[.bool q, lv] 57 (0, 0))) (hown : OwnB B w lv L) (hs : s.length ≤ 1000000) (hL : L.length < 1000000) :
    Calls Tryz.prog 20 #[.pointer (some ⟨B, 0, none⟩), .string (bs s)] w (TakePost w0 w lv B (Rc.takeP (q, L) s)) := by
  have HA := Lib.hid (rd_any B q lv s 3 (.inr (.inr rfl)) w hB hs (hg.below hw).et)
  have hBl := lt_of_block hB
  have HT : Hid (Rc.takeP (q, L) s = if (Rc.allP q s 3).2.length = 3 then ((Rc.allP (Rc.allP q s 3).1 (Rc.part (Rc.allP q s 3).2 1) 2).1 || Rc.parN (Rc.part (Rc.allP q s 3).2 2), L ++ [(Rc.part (Rc.allP q s 3).2 0, Rc.seensP (Rc.allP (Rc.allP q s 3).1 (Rc.part (Rc.allP q s 3).2 1) 2).2, Rc.parD (Rc.part (Rc.allP q s 3).2 2))]) else (true, L)) := Lib.hid rfl
  have HM := Lib.hid (allP_mem q s 3)
  have HG := Lib.hid hg
  have HW := Lib.hid hw
  have HO := Lib.hid hown
  have hwl := hw.size
  generalize Rc.allP q s 3 = a at *
  obtain ⟨a1, parts⟩ := a
  simp only at HT HM
  clear hg hw hown
  by_cases hp : parts.length = 3
  · obtain ⟨p0, p1, p2, rfl⟩ := ls3 hp
    rw [if_pos hp] at HT
    clear hp
    have m0 := HM.out p0 (by simp)
    have m1 := HM.out p1 (by simp)
    have m2 := HM.out p2 (by simp)
    have e0 : Rc.part [p0, p1, p2] 0 = p0 := rfl
    have e1 : Rc.part [p0, p1, p2] 1 = p1 := rfl
    have e2 : Rc.part [p0, p1, p2] 2 = p2 := rfl
    rw [e0, e1, e2] at HT
    clear e0 e1 e2 HM
    go_enter Tryz.func20, Tryz.ntmps20
    go_wp2_with fail
    refine HA.out.mono ?_
    rintro e w1 ⟨v, rfl, hrow, hvb, hB1, hg1⟩
    obtain ⟨A, cap, rfl, c1, c2, c3⟩ := hrow.shape
    obtain ⟨bp, op, rfl, hbp, hcp⟩ := c3 (by simp)
    have d0 := hcp 0 (by simp)
    have d1 := hcp 1 (by simp)
    have d2 := hcp 2 (by simp)
    simp only [List.length_cons, List.length_nil, Nat.zero_add, Nat.reduceAdd, Nat.add_zero, List.getElem_cons_zero, List.getElem_cons_succ] at d0 d1 d2 c1 ⊢
    have hbp2 := hvb bp rfl
    clear c3 hcp hrow hvb
    have HW1 : Hid (Below w0.heap.size w0 w1) := Lib.hid (HW.out.grown hg1 hwl (fun k hk => by injection hk with hk; omega))
    have hsz1 := hg1.size
    -- the record's box
    have hX := heap_alloc_new w1 (.cells #[.string (bs p0), .slice none 0 0, .slice none 0 0] 42)
    have hxa := (Below.refl w1.heap.size w1).alloc (Nat.le_refl _) (.cells #[.string (bs p0), .slice none 0 0, .slice none 0 0] 42)
    have hxs : (w1.alloc (.cells #[.string (bs p0), .slice none 0 0, .slice none 0 0] 42)).heap.size = w1.heap.size + 1 := by simp
    have hB1x := (hxa.block B (by omega)).trans hB1
    have d1x := (hxa.cell (p := ⟨bp, op + 1, none⟩) hbp).trans d1
    have HB := Lib.hid (rd_any B a1 lv p1 2 (.inr (.inl rfl)) (w1.alloc (.cells #[.string (bs p0), .slice none 0 0, .slice none 0 0] 42)).drew hB1x (by omega) (HG.out.below (HW1.out.trans (hxa.mono (Nat.le_trans hwl hsz1)))).et)
    have HMOD := Lib.hid (allP_mod a1 p1 2)
    have hrl := allP_le a1 p1 2 (by omega)
    have HRM := Lib.hid (allP_mem a1 p1 2)
    generalize Rc.allP a1 p1 2 = rd at *
    obtain ⟨a2, reads⟩ := rd
    simp only at HT HMOD hrl HRM
    go_upto_region 4 with fail
    go_region_held3 (fun wx => wx.cell? ⟨bp, op + 1, none⟩ = some (.string (bs p1))) (go_keep) (first
      | (go_at_call 19; refine HB.out.mono ?_; rintro e w2 ⟨v2, rfl, hrow2, hvb2, hB2, hg2⟩; have g1 := (World.cell?_of_block (a := ⟨bp, op + 1, none⟩) (hg2.block bp (by rw [show (w1.alloc (.cells #[.string (bs p0), .slice none 0 0, .slice none 0 0] 42)).drew.heap.size = w1.heap.size + 1 from hxs]; omega) (fun e => by injection e with e; omega))).trans d1x; dsimp only))
    have hs2 : w1.heap.size + 1 ≤ w2.heap.size := hxs ▸ hg2.size
    have hX2 := (hg2.block w1.heap.size (by rw [show (w1.alloc (.cells #[.string (bs p0), .slice none 0 0, .slice none 0 0] 42)).drew.heap.size = w1.heap.size + 1 from hxs]; omega) (fun e => by injection e with e; omega)).trans hX
    have hG2 : w.grownBy w2 (some B) := grown_trans hg1 (grown_trans (grown_of_below hxa _) (grown_trans (grown_of_below (below_of_drewN (a := (w1.alloc (.cells #[.string (bs p0), .slice none 0 0, .slice none 0 0] 42))) 1) _) hg2))
    have d2' := (World.cell?_of_block (a := ⟨bp, op + 2, none⟩) (hg2.block bp (by rw [show (w1.alloc (.cells #[.string (bs p0), .slice none 0 0, .slice none 0 0] 42)).drew.heap.size = w1.heap.size + 1 from hxs]; omega) (fun e => by injection e with e; omega))).trans ((hxa.cell (p := ⟨bp, op + 2, none⟩) hbp).trans d2)
    obtain ⟨A2, cap2, rfl, c3, c4, hcp2⟩ := hrow2.shape
    have HC2 := Lib.hid hcp2
    have hvb2' := fun b hb => Nat.le_trans (show w1.heap.size + 1 ≤ _ from hxs ▸ Nat.le_refl _) (hvb2 b hb)
    have HVB := Lib.hid hvb2'
    clear hrow2 hvb2 hcp2 HA HB hX hB1x d1x hxa hB1 g1 hvb2' d0 d1 d2 hg2 hxs
    go_wp2_with fail
    go_loopw [7] (fun i wr => ∃ (j : Nat) (rv : Value), 2 * j ≤ reads.length ∧ i = .int .i64 (2 * j : Nat) ∧ wr.heap[w1.heap.size]? = some (.cells #[.string (bs p0), rv, .slice none 0 0] 42 (0, 0)) ∧ OwnC 44 3 sf w2.heap.size wr rv ((Rc.seensP reads).take j) ∧ w2.grownBy wr (some w1.heap.size)) (fun i _ => reads.length - (RowKit.intOf i).toNat)
    case atStart => exact ⟨0, _, by omega, rfl, hX2, OwnC.nil _ _ _ _ _, ⟨rfl, rfl, rfl, Nat.le_refl _, fun _ _ _ => rfl⟩⟩
    case round =>
      clear hX2
      obtain ⟨j, rv, hj, rfl, hXr, hown, hgr⟩ := hrel
      by_cases hlt : 2 * j < reads.length
      · have h21 : 2 * j + 1 < reads.length := by have := HMOD.out; omega
        obtain ⟨b, off, rfl, hbl, hc⟩ := HC2.out (by rintro rfl; simp at hlt)
        have hbX := HVB.out b rfl
        have n0 := (World.cell?_of_block (a := ⟨b, off + 2 * j, none⟩) (hgr.block b hbl (fun e => by injection e with e; omega))).trans (hc (2 * j) hlt)
        have n1 := (World.cell?_of_block (a := ⟨b, off + (2 * j + 1), none⟩) (hgr.block b hbl (fun e => by injection e with e; omega))).trans (hc (2 * j + 1) h21)
        have HS := Lib.hid (seensP_step reads j h21)
        have hst := HRM.out reads[2 * j + 1] (List.getElem_mem h21)
        have hol : ((Rc.seensP reads).take j).length ≤ j := by simp; omega
        generalize reads[2 * j] = n at *
        generalize reads[2 * j + 1] = st at *
        have HO2 := Lib.hid hown
        obtain ⟨rA, rl, rc, hrv⟩ : ∃ A l c, rv = .slice A l c := by
          obtain ⟨A, c, h, _⟩ := (hown.rowC sf_length).shape
          exact ⟨A, _, c, h⟩
        subst hrv
        clear hc hown
        obtain ⟨k, hk⟩ : ∃ k, k = 2 * j := ⟨_, rfl⟩
        rw [← hk] at n0 n1 hlt h21 hj ⊢
        have HK := Lib.hid hk
        have hjk : j < 1000000 := by omega
        clear hk
        have i0 : (0 : Int) ≤ (k : Int) := by omega
        have i1 : (k : Int) < (reads.length : Int) := by omega
        have i2 : (k : Int) + 1 < (reads.length : Int) := by omega
        have i3 : (0 : Int) ≤ (k : Int) + 1 := by omega
        have hw : IntKind.i64.wrap ((k : Int) + 1) = (k : Int) + 1 := IntWalk.i64_in _ (by omega)
        have ht : ((k : Int) + 1).toNat = k + 1 := by omega
        have hz1 := bs_size st
        have hgs := hgr.size
        have hy : Below wr.heap.size wr (wr.alloc (.cells #[.string (bs n), .bool false, .string ⟨#[]⟩] 44)) := (Below.refl _ _).alloc (Nat.le_refl _) _
        have hyn := heap_alloc_new wr (.cells #[.string (bs n), .bool false, .string ⟨#[]⟩] 44)
        have hXl : w1.heap.size < wr.heap.size := by omega
        obtain ⟨x0, x1, x2, fx0, fx1, fx2⟩ := cells3 hXr
        by_cases hs1 : st = [45]
        · have hse : Hid (Rc.seenP n st = (n, false, [])) := Lib.hid (by unfold Rc.seenP; rw [if_pos hs1])
          have e45 : ((bs st).toList == [45]) = true := by rw [toListB, hs1]; rfl
          clear hs1
          go_wp2_with (at_builtin; refine wpList_seenG 39 44 Tryz.underlying39 pnInfo (by rfl) (.tmp 64) (.tmp 66) (by rfl) w2.heap.size _ ((Rc.seensP reads).take j) (n, false, []) (by rfl) (wr.heap.size + 1) (by simp) (by rfl) (HO2.out.below ((Below.refl _ _).alloc (Nat.le_refl _) _)) (Nat.le_trans hgs (by simp)) (by omega) ?_; intro v' w4 h8 h9; have hX4 := (h9.block w1.heap.size (Nat.lt_of_lt_of_le (Nat.lt_succ_self _) hs2)).trans ((Below.heap_alloc _ _ _ hXl).trans hXr); obtain ⟨A4, n4, c4', rfl⟩ : ∃ A n c, v' = .slice A n c := (by obtain ⟨g4, c4', hv4, _⟩ := h8.shape sf_length (by simp); exact ⟨_, _, _, hv4⟩); obtain ⟨y0, y1, y2, fy0, fy1, fy2⟩ := cells3 hX4; dsimp only)
          go_roundw
          case rel => exact ⟨j + 1, _, by have := HK.out; omega, by have := HK.out; congr 1; omega, cells_setCell hX4 _, by rw [HS.out, hse.out]; exact h8.heap fun k5 hk5 => setCell_oth w4 w1.heap.size 1 k5 _ (fun e5 => by have h10 := (h8.lt k5 hk5).1; omega), grown_step hgr ((Below.refl _ _).alloc (Nat.le_refl _) _) h9 _ _⟩
          case measure => simp [RowKit.intOf]; omega
        · have hse : Hid (Rc.seenP n st = (n, true, st.tail)) := Lib.hid (by unfold Rc.seenP; rw [if_neg hs1, List.drop_one])
          have e45 : ((bs st).toList == [45]) = false := by rw [toListB]; exact beq_eq_false_iff_ne.2 hs1
          by_cases hs0 : st = []
          · have e0 : ((bs st).toList == []) = true := by rw [toListB, hs0]; rfl
            have hdr : st.tail = [] := by rw [hs0]; rfl
            rw [hdr] at hse
            clear hs1 hs0 hdr
            go_wp2_with (at_builtin; refine wpList_seenG 39 44 Tryz.underlying39 pnInfo (by rfl) (.tmp 64) (.tmp 66) (by rfl) w2.heap.size _ ((Rc.seensP reads).take j) (n, true, []) (by rfl) (wr.heap.size + 1) (by simp) (by rfl) (HO2.out.below ((Below.refl _ _).alloc (Nat.le_refl _) _)) (Nat.le_trans hgs (by simp)) (by omega) ?_; intro v' w4 h8 h9; have hX4 := (h9.block w1.heap.size (Nat.lt_of_lt_of_le (Nat.lt_succ_self _) hs2)).trans ((Below.heap_alloc _ _ _ hXl).trans hXr); obtain ⟨A4, n4, c4', rfl⟩ : ∃ A n c, v' = .slice A n c := (by obtain ⟨g4, c4', hv4, _⟩ := h8.shape sf_length (by simp); exact ⟨_, _, _, hv4⟩); obtain ⟨y0, y1, y2, fy0, fy1, fy2⟩ := cells3 hX4; dsimp only)
            go_roundw
            case rel => exact ⟨j + 1, _, by have := HK.out; omega, by have := HK.out; congr 1; omega, cells_setCell hX4 _, by rw [HS.out, hse.out]; exact h8.heap fun k5 hk5 => setCell_oth w4 w1.heap.size 1 k5 _ (fun e5 => by have h10 := (h8.lt k5 hk5).1; omega), grown_step hgr ((Below.refl _ _).alloc (Nat.le_refl _) _) h9 _ _⟩
            case measure => simp [RowKit.intOf]; omega
          · have e0 : ((bs st).toList == []) = false := by rw [toListB]; exact beq_eq_false_iff_ne.2 hs0
            have hst1 : 1 ≤ st.length := List.length_pos_iff.2 hs0
            have hex : (bs st).extract 1 st.length = bs st.tail := by rw [bs_extract', List.take_length, List.drop_one]
            have hi1 : (1 : Int) ≤ (st.length : Int) := by omega
            clear hs1 hs0
            go_wp2_with (at_builtin; refine wpList_seenG 39 44 Tryz.underlying39 pnInfo (by rfl) (.tmp 64) (.tmp 66) (by rfl) w2.heap.size _ ((Rc.seensP reads).take j) (n, true, st.tail) (by rfl) (wr.heap.size + 1) (by simp) (by rfl) (HO2.out.below ((Below.refl _ _).alloc (Nat.le_refl _) _)) (Nat.le_trans hgs (by simp)) (by omega) ?_; intro v' w4 h8 h9; have hX4 := (h9.block w1.heap.size (Nat.lt_of_lt_of_le (Nat.lt_succ_self _) hs2)).trans ((Below.heap_alloc _ _ _ hXl).trans hXr); obtain ⟨A4, n4, c4', rfl⟩ : ∃ A n c, v' = .slice A n c := (by obtain ⟨g4, c4', hv4, _⟩ := h8.shape sf_length (by simp); exact ⟨_, _, _, hv4⟩); obtain ⟨y0, y1, y2, fy0, fy1, fy2⟩ := cells3 hX4; dsimp only)
            go_roundw
            case rel => exact ⟨j + 1, _, by have := HK.out; omega, by have := HK.out; congr 1; omega, cells_setCell hX4 _, by rw [HS.out, hse.out]; exact h8.heap fun k5 hk5 => setCell_oth w4 w1.heap.size 1 k5 _ (fun e5 => by have h10 := (h8.lt k5 hk5).1; omega), grown_step hgr ((Below.refl _ _).alloc (Nat.le_refl _) _) h9 _ _⟩
            case measure => simp [RowKit.intOf]; omega
      · have hjl : (Rc.seensP reads).length ≤ j := by rw [seensP_len]; omega
        rw [List.take_of_length_le hjl] at hown
        obtain ⟨k, hk⟩ : ∃ k, k = 2 * j := ⟨_, rfl⟩
        have hnl : ¬ k < reads.length := by omega
        have hnli : ¬ (k : Int) < (reads.length : Int) := by omega
        rw [← hk]
        clear hk hlt hjl
        have hgs := hgr.size
        have hGr : w.grownBy wr (some B) := ⟨hgr.os.trans hG2.os, hgr.tape.trans hG2.tape, hgr.output.trans hG2.output, Nat.le_trans hG2.size hgr.size, fun k hk hne => (hgr.block k (Nat.lt_of_lt_of_le hk hG2.size) (fun e => by injection e with e; omega)).trans (hG2.block k hk hne)⟩
        have hWr : Below w0.heap.size w0 wr := HW.out.grown hGr hwl (fun k hk => by injection hk with hk; omega)
        have hBr := (hgr.block B (by omega) (fun e => by injection e with e; omega)).trans hB2
        have hd2 := (World.cell?_of_block (a := ⟨bp, op + 2, none⟩) (hgr.block bp (by omega) (fun e => by injection e with e; omega))).trans d2'
        have HPA := Lib.hid (wParse_own p2 wr (by omega) (HG.out.below hWr))
        have hXl : w1.heap.size < wr.heap.size := by omega
        have hBX : B ≠ w1.heap.size := by omega
        have hBlr : B < wr.heap.size := by omega
        have HO3 := Lib.hid hown
        obtain ⟨rA, rl, rc, hrv⟩ : ∃ A l c, rv = .slice A l c := by
          obtain ⟨A, c, h, _⟩ := (hown.rowC sf_length).shape
          exact ⟨A, _, c, h⟩
        subst hrv
        have hpe := par_err p2
        clear hown hB2 d2'
        have i9 : (2 : Int) < 3 := by decide
        go_wp2_with fail
        refine HPA.out.mono ?_
        rintro e w3 ⟨hb3, wv, rfl, hwrow, hwb⟩
        obtain ⟨wA, wc, rfl, _, _, _⟩ := hwrow.shape
        have HWR := Lib.hid hwrow
        have hB3 := (hb3.block B hBlr).trans hBr
        have hX3 := (hb3.block w1.heap.size hXl).trans hXr
        obtain ⟨b0, b1, fb0, fb1⟩ := cells2 hB3
        have hX3s := fun v => (setCell_oth w3 B 0 w1.heap.size v hBX.symm).trans hX3
        have x0 := fun v => (cells3 (hX3s v)).1
        have x1 := fun v => (cells3 (hX3s v)).2.1
        have x2 := fun v => (cells3 (hX3s v)).2.2.1
        have fx2 := fun v => (cells3 (hX3s v)).2.2.2.2.2
        clear hwrow
        cases a2 with
        | true =>
          go_upto_region 17 with fail
          obtain ⟨W4, hW4⟩ : ∃ W4, W4 = (w3.setCell ⟨B, 0, none⟩ (.bool true)).setCell ⟨w1.heap.size, 2, none⟩ (.slice wA (parL p2).length wc) := ⟨_, rfl⟩
          rw [← hW4]
          have hB4 : W4.heap[B]? = some (.cells #[.bool true, lv] 57 (0, 0)) := by rw [hW4, setCell_oth _ _ _ _ _ hBX]; exact cells_setCell hB3 _
          have hX4 : W4.heap[w1.heap.size]? = some (.cells #[.string (bs p0), .slice rA rl rc, .slice wA (parL p2).length wc] 42 (0, 0)) := by rw [hW4]; exact cells_setCell (hX3s _) _
          have h4s : W4.heap.size = w3.heap.size := by rw [hW4]; simp [World.setCell]
          have h4o : ∀ k, k ≠ B → k ≠ w1.heap.size → W4.heap[k]? = w3.heap[k]? := fun k h1 h2 => by rw [hW4, setCell_oth _ _ _ _ _ h2, setCell_oth _ _ _ _ _ h1]
          have h4os : W4.os = w3.os ∧ W4.tape = w3.tape ∧ W4.output = w3.output := by rw [hW4]; exact ⟨rfl, rfl, rfl⟩
          have hG4 : w.grownBy W4 (some B) := ⟨h4os.1.trans (hb3.os.trans hGr.os), h4os.2.1.trans (hb3.tape.trans hGr.tape), h4os.2.2.trans (hb3.output.trans hGr.output), by rw [h4s]; exact Nat.le_trans hGr.size hb3.size, fun k hk hne => (h4o k (fun e => hne (by rw [e])) (by omega)).trans ((hb3.block k (Nat.lt_of_lt_of_le hk hGr.size)).trans (hGr.block k hk hne))⟩
          have h3s := hb3.size
          have HOB := Lib.hid (HO.out.keep hG4)
          have HREC : Hid (RecIs W4 W4.heap.size (p0, .slice rA rl rc, .slice wA (parL p2).length wc) (p0, Rc.seensP reads, parL p2)) := Lib.hid ⟨rfl,
            (HO3.out.rowC sf_length).blk (by rw [h4s]; exact h3s) (fun b off m c hv hne hb => by
              have h5 := HO3.out.lt b (by rw [hv]; rfl)
              exact (h4o b (by omega) (by omega)).trans (hb3.block b hb)),
            HWR.out.blk (by rw [h4s]; exact Nat.le_refl _) (fun b off m c hv hne hb => by
              have h5 := hwb b (by rw [hv]; rfl)
              exact h4o b (by omega) (by omega))⟩
          have hlvk := HO.out.lt
          have HAW : Hid (Away lv.ownBlock (p0, .slice rA rl rc, .slice wA (parL p2).length wc) (p0, Rc.seensP reads, parL p2)) := Lib.hid fun b hb => by
            have h5 := hlvk b hb
            refine ⟨fun _ e => ?_, fun _ e => ?_⟩
            · have h6 := (HO3.out.lt b (own_blk e)).1; omega
            · have h6 := hwb b e; omega
          have HAB : Hid (Away (some B) (p0, .slice rA rl rc, .slice wA (parL p2).length wc) (p0, Rc.seensP reads, parL p2)) := Lib.hid fun b hb => by
            injection hb with hb
            refine ⟨fun _ e => ?_, fun _ e => ?_⟩
            · have h6 := (HO3.out.lt b (own_blk e)).1; omega
            · have h6 := hwb b e; omega
          have hBne : lv.ownBlock ≠ some B := fun e => by have := (hlvk B e).1; omega
          have hB4l : B < W4.heap.size := by rw [h4s]; omega
          have hW4a := fun o => (Below.refl W4.heap.size W4).alloc (Nat.le_refl _) o
          obtain ⟨s0, s1, _, _⟩ := cells2 hB4
          obtain ⟨z0, z1, z2, _, _, _⟩ := cells3 hX4
          have s1a := fun o => (Below.cell (p := ⟨B, 1, none⟩) (hW4a o) hB4l).trans s1
          clear hW4 hX3s x0 x1 x2 fx2 b0 b1 fb0 fb1 hX3 hB3 hBr hXr hlvk h4o h4os
          go_region_law ((refine step_recB (by rfl) (.tmp 95) (.tmp 97) (by rfl) B _ L (p0, .slice rA rl rc, .slice wA (parL p2).length wc) (p0, Rc.seensP reads, parL p2) (by simp [Act.eval]) W4.heap.size (by simp [Act.eval]) (heap_alloc_new _ _) (HOB.out.keep (grown_of_below (hW4a _).drew _)) (HREC.out.step (hW4a _).drew) HAW.out HAB.out (Nat.lt_of_lt_of_le hB4l (hW4a _).size) (by omega) ?_; rintro v6 w6 k6 g6 ⟨A6, n6, c6, rfl⟩ o6; have hB6 := (g6.block B (Nat.lt_of_lt_of_le hB4l (hW4a _).size) (fun e => hBne e.symm)).trans (((hW4a _).block B hB4l).trans hB4); obtain ⟨y0, y1, fy0, fy1⟩ := cells2 hB6; dsimp only))
          all_goals go_wp2_with fail
          all_goals go_end0
          all_goals
            have hWB : Below w0.heap.size w0 W4 := HW.out.grown hG4 hwl (fun k hk => by injection hk with hk; omega)
            refine ⟨rfl, ?_⟩
            rw [HT.out]
            exact ⟨_, cells_setCell hB6 _, k6.keep (grown_setCell _ B 1 _), ((hWB.trans ((hW4a _).drew.mono hWB.size)).grown g6 (Nat.le_trans hWB.size (hW4a _).drew.size) (fun k hk => by have := (HO.out.lt k hk).1; omega)).setCell (p := ⟨B, 1, none⟩) hw0 _, by rw [World.size_setCell]; exact Nat.le_trans hG4.size (Nat.le_trans (hW4a _).drew.size g6.size), fun k hk h1 h2 => (setCell_oth _ _ _ _ _ h1).trans ((g6.block k (Nat.lt_of_lt_of_le hk (Nat.le_trans hG4.size (hW4a _).drew.size)) (fun e => h2 e.symm)).trans (((hW4a _).drew.block k (Nat.lt_of_lt_of_le hk hG4.size)).trans (hG4.block k hk (fun e => h1 (by injection e))))), fun k hk => (o6 k hk).imp id fun h => Nat.le_trans (Nat.le_trans hG4.size (hW4a _).drew.size) h⟩
        | false =>
          go_upto_region 17 with fail
          obtain ⟨W4, hW4⟩ : ∃ W4, W4 = (w3.setCell ⟨B, 0, none⟩ (.bool (Rc.parN p2))).setCell ⟨w1.heap.size, 2, none⟩ (.slice wA (parL p2).length wc) := ⟨_, rfl⟩
          rw [← hW4]
          have hB4 : W4.heap[B]? = some (.cells #[.bool (Rc.parN p2), lv] 57 (0, 0)) := by rw [hW4, setCell_oth _ _ _ _ _ hBX]; exact cells_setCell hB3 _
          have hX4 : W4.heap[w1.heap.size]? = some (.cells #[.string (bs p0), .slice rA rl rc, .slice wA (parL p2).length wc] 42 (0, 0)) := by rw [hW4]; exact cells_setCell (hX3s _) _
          have h4s : W4.heap.size = w3.heap.size := by rw [hW4]; simp [World.setCell]
          have h4o : ∀ k, k ≠ B → k ≠ w1.heap.size → W4.heap[k]? = w3.heap[k]? := fun k h1 h2 => by rw [hW4, setCell_oth _ _ _ _ _ h2, setCell_oth _ _ _ _ _ h1]
          have h4os : W4.os = w3.os ∧ W4.tape = w3.tape ∧ W4.output = w3.output := by rw [hW4]; exact ⟨rfl, rfl, rfl⟩
          have hG4 : w.grownBy W4 (some B) := ⟨h4os.1.trans (hb3.os.trans hGr.os), h4os.2.1.trans (hb3.tape.trans hGr.tape), h4os.2.2.trans (hb3.output.trans hGr.output), by rw [h4s]; exact Nat.le_trans hGr.size hb3.size, fun k hk hne => (h4o k (fun e => hne (by rw [e])) (by omega)).trans ((hb3.block k (Nat.lt_of_lt_of_le hk hGr.size)).trans (hGr.block k hk hne))⟩
          have h3s := hb3.size
          have HOB := Lib.hid (HO.out.keep hG4)
          have HREC : Hid (RecIs W4 W4.heap.size (p0, .slice rA rl rc, .slice wA (parL p2).length wc) (p0, Rc.seensP reads, parL p2)) := Lib.hid ⟨rfl,
            (HO3.out.rowC sf_length).blk (by rw [h4s]; exact h3s) (fun b off m c hv hne hb => by
              have h5 := HO3.out.lt b (by rw [hv]; rfl)
              exact (h4o b (by omega) (by omega)).trans (hb3.block b hb)),
            HWR.out.blk (by rw [h4s]; exact Nat.le_refl _) (fun b off m c hv hne hb => by
              have h5 := hwb b (by rw [hv]; rfl)
              exact h4o b (by omega) (by omega))⟩
          have hlvk := HO.out.lt
          have HAW : Hid (Away lv.ownBlock (p0, .slice rA rl rc, .slice wA (parL p2).length wc) (p0, Rc.seensP reads, parL p2)) := Lib.hid fun b hb => by
            have h5 := hlvk b hb
            refine ⟨fun _ e => ?_, fun _ e => ?_⟩
            · have h6 := (HO3.out.lt b (own_blk e)).1; omega
            · have h6 := hwb b e; omega
          have HAB : Hid (Away (some B) (p0, .slice rA rl rc, .slice wA (parL p2).length wc) (p0, Rc.seensP reads, parL p2)) := Lib.hid fun b hb => by
            injection hb with hb
            refine ⟨fun _ e => ?_, fun _ e => ?_⟩
            · have h6 := (HO3.out.lt b (own_blk e)).1; omega
            · have h6 := hwb b e; omega
          have hBne : lv.ownBlock ≠ some B := fun e => by have := (hlvk B e).1; omega
          have hB4l : B < W4.heap.size := by rw [h4s]; omega
          have hW4a := fun o => (Below.refl W4.heap.size W4).alloc (Nat.le_refl _) o
          obtain ⟨s0, s1, _, _⟩ := cells2 hB4
          obtain ⟨z0, z1, z2, _, _, _⟩ := cells3 hX4
          have s1a := fun o => (Below.cell (p := ⟨B, 1, none⟩) (hW4a o) hB4l).trans s1
          clear hW4 hX3s x0 x1 x2 fx2 b0 b1 fb0 fb1 hX3 hB3 hBr hXr hlvk h4o h4os
          go_region_law ((refine step_recB (by rfl) (.tmp 95) (.tmp 97) (by rfl) B _ L (p0, .slice rA rl rc, .slice wA (parL p2).length wc) (p0, Rc.seensP reads, parL p2) (by simp [Act.eval]) W4.heap.size (by simp [Act.eval]) (heap_alloc_new _ _) (HOB.out.keep (grown_of_below (hW4a _).drew _)) (HREC.out.step (hW4a _).drew) HAW.out HAB.out (Nat.lt_of_lt_of_le hB4l (hW4a _).size) (by omega) ?_; rintro v6 w6 k6 g6 ⟨A6, n6, c6, rfl⟩ o6; have hB6 := (g6.block B (Nat.lt_of_lt_of_le hB4l (hW4a _).size) (fun e => hBne e.symm)).trans (((hW4a _).block B hB4l).trans hB4); obtain ⟨y0, y1, fy0, fy1⟩ := cells2 hB6; dsimp only))
          all_goals go_wp2_with fail
          all_goals go_end0
          all_goals
            have hWB : Below w0.heap.size w0 W4 := HW.out.grown hG4 hwl (fun k hk => by injection hk with hk; omega)
            refine ⟨rfl, ?_⟩
            rw [HT.out]
            exact ⟨_, cells_setCell hB6 _, k6.keep (grown_setCell _ B 1 _), ((hWB.trans ((hW4a _).drew.mono hWB.size)).grown g6 (Nat.le_trans hWB.size (hW4a _).drew.size) (fun k hk => by have := (HO.out.lt k hk).1; omega)).setCell (p := ⟨B, 1, none⟩) hw0 _, by rw [World.size_setCell]; exact Nat.le_trans hG4.size (Nat.le_trans (hW4a _).drew.size g6.size), fun k hk h1 h2 => (setCell_oth _ _ _ _ _ h1).trans ((g6.block k (Nat.lt_of_lt_of_le hk (Nat.le_trans hG4.size (hW4a _).drew.size)) (fun e => h2 e.symm)).trans (((hW4a _).drew.block k (Nat.lt_of_lt_of_le hk hG4.size)).trans (hG4.block k hk (fun e => h1 (by injection e))))), fun k hk => (o6 k hk).imp id fun h => Nat.le_trans (Nat.le_trans hG4.size (hW4a _).drew.size) h⟩
  · rw [if_neg hp] at HT
    have hne : ((parts.length : Int) != 3) = true := by simp; omega
    clear hp HM
    go_enter Tryz.func20, Tryz.ntmps20
    go_wp2_with fail
    refine HA.out.mono ?_
    rintro e w1 ⟨v, rfl, hrow, hvb, hB1, hg1⟩
    obtain ⟨A, cap, rfl, c1, c2, c3⟩ := hrow.shape
    obtain ⟨y0, y1, fy0, fy1⟩ := cells2 hB1
    clear c3 hrow hvb
    go_wp2_with fail
    go_end0
    refine ⟨rfl, ?_⟩
    rw [HT.out]
    exact ⟨_, cells_setCell hB1 _, HO.out.keep (grown_trans hg1 (grown_setCell _ B 0 _)), (HW.out.grown hg1 hwl (fun k hk => by injection hk with hk; omega)).setCell (p := ⟨B, 0, none⟩) hw0 _, by rw [World.size_setCell]; exact hg1.size, fun k hk h1 h2 => (setCell_oth _ _ _ _ _ h1).trans (hg1.block k hk (fun e => h1 (by injection e))), fun k hk => .inl hk⟩
end Go.Proofs.YtiogmegdkfnkkaaGreatDoor
