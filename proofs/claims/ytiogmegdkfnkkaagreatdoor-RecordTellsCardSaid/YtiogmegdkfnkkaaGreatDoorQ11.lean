/- record.Decode. · A region that draws its order: what only reads, and then lays one block, ahead of a tail in one order. · A region that draws its order, in stages: the first n operations, whichever order is picked, lead to L; what follows goes on from L. -/
import Derived.Test.YtiogmegdkfnkkaaGreatDoorRcTake
import Derived.Test.YtiogmegdkfnkkaaGreatDoorQ1
import Derived.OrdersHeld
import Derived.StillTail
namespace Go.Proofs.YtiogmegdkfnkkaaGreatDoor
open Go.RowKit Tx

def OkX (x : Rc.Rec) : Prop := RecOk x ∧ x.2.1.length < 1000000
theorem seensP_ok : ∀ l : List Bs, (∀ x ∈ l, x.length ≤ 999999) → ∀ r ∈ Rc.seensP l, SOk r
  | [], _ => by simp [Rc.seensP]
  | [a], _ => by simp [Rc.seensP]
  | a :: b :: l, h => by
    intro r hr
    simp only [Rc.seensP, List.mem_cons] at hr
    rcases hr with rfl | hr
    · have h1 := h a (by simp)
      have h2 := h b (by simp)
      unfold Rc.seenP
      split
      · exact ⟨by simp only [maxLen]; omega, by simp⟩
      · exact ⟨by simp only [maxLen]; omega, by simp only [maxLen, List.length_drop]; omega⟩
    · exact seensP_ok l (fun x hx => h x (by simp [hx])) r hr
theorem fileOk_FOk {f : Wr.F} (h : Wr.fileOk f = true) : FOk f := by
  have := Wr.fileOk_len h
  exact ⟨by simp only [maxLen]; omega, by simp only [maxLen]; omega⟩
theorem parL_ok (s : Bs) : ∀ f ∈ parL s, FOk f := by
  unfold parL
  match h : Wr.parse s with
  | .error e => simp
  | .ok l =>
    intro f hf
    exact fileOk_FOk ((Wr.right_of (Wr.files_parse s l h).2).ok f hf)
theorem takeP_ok (q : Bool) (L : List Rc.Rec) (t : Bs) (_ht : t.length ≤ 1000000) (h : ∀ x ∈ L, OkX x) : ∀ x ∈ (Rc.takeP (q, L) t).2, OkX x := by
  unfold Rc.takeP
  simp only
  split
  · next hl =>
    intro x hx
    rcases List.mem_append.1 hx with hx | hx
    · exact h x hx
    · simp only [List.mem_singleton] at hx
      subst hx
      have hm := allP_mem q t 3
      obtain ⟨p0, p1, p2, hp⟩ := ls3 hl
      rw [hp] at hm ⊢
      have m0 := hm p0 (by simp)
      have m1 := hm p1 (by simp)
      have e0 : Rc.part [p0, p1, p2] 0 = p0 := rfl
      have e1 : Rc.part [p0, p1, p2] 1 = p1 := rfl
      rw [e0, e1]
      refine ⟨⟨by simp only [maxLen]; omega, seensP_ok _ (allP_mem _ _ _), parL_ok _⟩, ?_⟩
      show (Rc.seensP _).length < _
      rw [seensP_len]
      have := allP_le (Rc.allP q t 3).1 p1 2 (by omega)
      omega
  · exact h
theorem takeP_len (q : Bool) (L : List Rc.Rec) (t : Bs) : (Rc.takeP (q, L) t).2.length ≤ L.length + 1 := by
  unfold Rc.takeP
  simp only
  split
  · simp
  · simp
/-- What was taken of the first k texts. -/
def stP (q : Bool) (l : List Bs) (k : Nat) : Bool × List Rc.Rec := ((l.take k).drop 1).foldl Rc.takeP (q, [])
theorem stP_zero (q : Bool) (l : List Bs) : stP q l 0 = (q, []) := rfl
theorem stP_one (q : Bool) (l : List Bs) : stP q l 1 = (q, []) := by
  unfold stP
  rw [List.drop_eq_nil_of_le (by simp; omega)]
  rfl
theorem stP_step (q : Bool) (l : List Bs) (k : Nat) (hk : 0 < k) (h : k < l.length) : stP q l (k + 1) = Rc.takeP (stP q l k) l[k] := by
  unfold stP
  rw [List.take_succ_eq_append_getElem h, List.drop_append_of_le_length (by simp; omega), List.foldl_append]
  rfl
theorem stP_ok (q : Bool) (l : List Bs) (h : ∀ x ∈ l, x.length ≤ 999999) (k : Nat) (hk : k ≤ l.length) : (∀ x ∈ (stP q l k).2, OkX x) ∧ (stP q l k).2.length ≤ k := by
  induction k with
  | zero => simp [stP_zero]
  | succ k ih =>
    obtain ⟨h1, h2⟩ := ih (by omega)
    rcases Nat.eq_zero_or_pos k with rfl | hk0
    · rw [stP_one]; simp
    · rw [stP_step q l k hk0 (by omega)]
      have := h l[k] (List.getElem_mem (by omega))
      generalize stP q l k = st at *
      obtain ⟨a, L⟩ := st
      exact ⟨takeP_ok a L _ (by omega) h1, by have := takeP_len a L l[k]; simp only at h2; omega⟩
theorem runP_eq (s : Bs) : Rc.runP s = stP (Rc.allP false s 1).1 (Rc.allP false s 1).2 (Rc.allP false s 1).2.length := by
  unfold Rc.runP stP
  rw [List.take_length]
def decL (s : Bs) : List Rc.Rec := match Rc.dec s with | .ok l => l | .error _ => []
def decE (s : Bs) : Nat := match Rc.dec s with | .ok _ => 0 | .error _ => 5
theorem dec_bad {s : Bs} (h : (Rc.runP s).1 = true) : decL s = [] ∧ decE s = 5 := by
  have : Rc.dec s = .error 5 := by rw [← Rc.decP_eq]; unfold Rc.decP; rw [if_pos h]
  unfold decL decE
  rw [this]
  exact ⟨rfl, rfl⟩
theorem dec_no {s : Bs} (h : (Rc.runP s).1 = false) (h2 : ¬ (Rc.rightR (Rc.runP s).2 = true ∧ Rc.bytes (Rc.runP s).2 = s)) : decL s = [] ∧ decE s = 5 := by
  have : Rc.dec s = .error 5 := by rw [← Rc.decP_eq]; unfold Rc.decP; rw [h, if_neg (by simp), if_neg h2]
  unfold decL decE
  rw [this]
  exact ⟨rfl, rfl⟩
theorem dec_yes {s : Bs} (h : (Rc.runP s).1 = false) (h2 : Rc.rightR (Rc.runP s).2 = true ∧ Rc.bytes (Rc.runP s).2 = s) : decL s = (Rc.runP s).2 ∧ decE s = 0 := by
  have : Rc.dec s = .ok (Rc.runP s).2 := by rw [← Rc.decP_eq]; unfold Rc.decP; rw [h, if_neg (by simp), if_pos h2]
  unfold decL decE
  rw [this]
  exact ⟨rfl, rfl⟩
def DecPost (s : Bs) (w : World) (e : Ending) (w' : World) : Prop :=
  Below w.heap.size w w' ∧ ∃ o, e = .returned (.tuple #[o, .int .i64 (decE s : Nat)]) ∧ RowR w' w'.heap.size o (decL s)
set_option maxRecDepth 100000 in
set_option maxHeartbeats 8000000 in
theorem dec_any (s : Bs) (w : World) (hs : s.length ≤ 1000000) (hg : Gl w) :
    Calls Tryz.prog 8 #[.string (bs s)] w (DecPost s w) := by
  obtain ⟨W, hW⟩ : ∃ W, W = w.alloc (.cells #[.bool false, .slice none 0 0] 57) := ⟨_, rfl⟩
  have hWB : W.heap[w.heap.size]? = some (.cells #[.bool false, .slice none 0 0] 57 (0, 0)) := by rw [hW]; exact heap_alloc_new _ _
  have hWw : Below w.heap.size w W := by rw [hW]; exact (Below.refl _ _).alloc (Nat.le_refl _) _
  have hWs : W.heap.size = w.heap.size + 1 := by rw [hW]; simp
  have HA := Lib.hid (rd_any w.heap.size false (.slice none 0 0) s 1 (.inl rfl) W hWB hs (hg.below hWw).et)
  have HG := Lib.hid hg
  have HR := Lib.hid (runP_eq s)
  have hpl := allP_le false s 1 hs
  have HM := Lib.hid (allP_mem false s 1)
  generalize Rc.allP false s 1 = pa at *
  obtain ⟨q1, parts⟩ := pa
  simp only at HR hpl HM
  have HB := Lib.hid hWw
  clear hg hWw hWB
  go_enter Tryz.func8, Tryz.ntmps8
  go_wp2_with fail
  rw [← hW]
  clear hW
  refine HA.out.mono ?_
  rintro e w2 ⟨v, rfl, hrow, hvb, hB2, hg2⟩
  have hs2 := hg2.size
  rw [hWs] at hs2 hvb
  have hb2 : Below w.heap.size w w2 := HB.out.grown hg2 (by omega) (fun k hk => by injection hk with hk; omega)
  obtain ⟨A, cap, rfl, c1, c2, c3⟩ := hrow.shape
  simp only at c1 c3 ⊢
  have HC := Lib.hid c3
  clear c3 hrow
  have hvb' := fun b hb => hvb b hb
  have HV := Lib.hid hvb'
  have HST := Lib.hid (stP_ok q1 parts HM.out)
  clear hvb hvb'
  have hB2x := cells2 hB2
  go_wp2_with fail
  go_loopw [15] (fun i wr => ∃ (k : Nat) (lv : Value), k ≤ parts.length ∧ i = .int .i64 k ∧ wr.heap[w.heap.size]? = some (.cells #[.bool (stP q1 parts k).1, lv] 57 (0, 0)) ∧ Hid (OwnB w.heap.size wr lv (stP q1 parts k).2) ∧ Below w.heap.size w wr ∧ w2.heap.size ≤ wr.heap.size ∧ Hid (∀ b, b < w2.heap.size → b ≠ w.heap.size → wr.heap[b]? = w2.heap[b]?) ∧ Hid (∀ b, lv.ownBlock = some b → w2.heap.size ≤ b)) (fun i _ => parts.length - (RowKit.intOf i).toNat)
  case atStart => exact ⟨0, _, Nat.zero_le _, rfl, hB2, Lib.hid (OwnB.nil _ _), hb2, Nat.le_refl _, Lib.hid (fun _ _ _ => rfl), Lib.hid (fun b hb => by cases hb)⟩
  case round =>
    clear hB2 hB2x hb2 hg2
    obtain ⟨k, lv, hk, rfl, hBr, hown, hbel, hsr, hoth, hlv⟩ := hrel
    have hle := hbel.size
    by_cases hlt : k < parts.length
    · have i0 : (0 : Int) ≤ (k : Int) := by omega
      have i1 : (k : Int) < (parts.length : Int) := by omega
      obtain ⟨bp, op, rfl, hbp, hcp⟩ := HC.out (by rintro rfl; simp at hlt)
      have hbpB := HV.out bp rfl
      have hcell := (World.cell?_of_block (a := ⟨bp, op + k, none⟩) (hoth.out bp hbp (by omega))).trans (hcp k hlt)
      clear hcp
      rcases Nat.eq_zero_or_pos k with rfl | hk0
      · have h1 : stP q1 parts 1 = stP q1 parts 0 := by rw [stP_one, stP_zero]
        simp only [Nat.add_zero] at hcell
        generalize parts[0] = t at *
        go_wp2_with fail
        go_roundw
        case rel => exact ⟨1, lv, by omega, rfl, by rw [h1]; exact hBr, by rw [h1]; exact hown, hbel, hsr, hoth, hlv⟩
        case measure => simp [RowKit.intOf]; omega
      · have HS := Lib.hid (stP_step q1 parts k hk0 hlt)
        have hml := HM.out _ (List.getElem_mem hlt)
        have hstl := (HST.out k hk).2
        have hk1 : (0 : Int) < (k : Int) := by omega
        generalize parts[k] = t at *
        generalize stP q1 parts k = st at *
        obtain ⟨qa, La⟩ := st
        simp only at hBr hown hstl
        have hcon := take_any w HG.out w.heap.size qa lv La t wr hbel (Nat.le_refl _) hBr hown.out (by omega) (by omega)
        clear hBr hown
        go_wp2_with (go_at_call 20; refine hcon.mono ?_; rintro e w3 ⟨rfl, lv', hB3, hO3, hb3, hs3, ho3, hl3⟩)
        go_roundw
        case rel => exact ⟨k + 1, lv', by omega, by go_num, by rw [HS.out]; exact hB3, by rw [HS.out]; exact Lib.hid hO3, hb3, Nat.le_trans hsr hs3, Lib.hid (fun b hb hne => (ho3 b (Nat.lt_of_lt_of_le hb hsr) hne (fun e => by have := hlv.out b e; omega)).trans (hoth.out b hb hne)), Lib.hid (fun b hb => by rcases hl3 b hb with h | h; exact hlv.out b h; omega)⟩
        case measure => simp [RowKit.intOf]; omega
    · obtain rfl : k = parts.length := by omega
      obtain ⟨hokx, hlx⟩ := HST.out _ (Nat.le_refl _)
      rw [← HR.out] at hBr hown hokx hlx
      have i9 : ¬ (parts.length : Int) < (parts.length : Int) := by omega
      have HOKX := Lib.hid hokx
      clear hokx
      have DB := Lib.hid (@dec_bad s)
      have DN := Lib.hid (@dec_no s)
      have DY := Lib.hid (@dec_yes s)
      generalize hrp : Rc.runP s = rp at *
      obtain ⟨qa, La⟩ := rp
      simp only at hBr hown hlx
      obtain ⟨b0, b1, _, _⟩ := cells2 hBr
      cases qa with
      | true =>
        obtain ⟨d1, d2⟩ := DB.out rfl
        go_wp2_with fail
        go_ret2
        exact ⟨hbel, .slice none 0 0, by rw [d2]; rfl, by rw [d1]; exact RowR.nil _ _⟩
      | false =>
        obtain ⟨lA, ln, lc, hlvs⟩ : ∃ A n c, lv = .slice A n c := by
          obtain ⟨A, c, h, _⟩ := hown.out.row.shape
          exact ⟨A, _, c, h⟩
        subst hlvs
        have hcon := enc_any _ La wr hown.out.row (by omega) HOKX.out (HG.out.below hbel)
        cases hrt : Rc.rightR La with
        | false =>
          rw [encV_no hrt] at hcon
          obtain ⟨d1, d2⟩ := DN.out rfl (by rintro ⟨h, _⟩; rw [hrt] at h; cases h)
          clear hown hrt
          go_wp2_with (go_at_call 5; refine hcon.mono ?_; rintro e w3 ⟨rfl, hb3⟩)
          go_ret2
          exact ⟨hbel.trans (hb3.mono hle), .slice none 0 0, by rw [d2]; rfl, by rw [d1]; exact RowR.nil _ _⟩
        | true =>
          rw [encV_yes hrt] at hcon
          have hBr' := hBr
          by_cases hbs : Rc.bytes La = s
          · obtain ⟨d1, d2⟩ := DY.out rfl ⟨hrt, hbs⟩
            have hbe : ((bs (Rc.bytes La)).toList == (bs s).toList) = true := by rw [hbs]; simp
            have hBlt := lt_of_block hBr
            have HO := Lib.hid hown.out.row
            clear hown hrt hbs DB DN DY
            generalize Rc.bytes La = bt at *
            go_wp2_with (go_at_call 5; refine hcon.mono ?_; rintro e w3 ⟨rfl, hb3⟩; have hB3 := (hb3.block _ hBlt).trans hBr; obtain ⟨e0, e1, _, _⟩ := cells2 hB3; dsimp only)
            go_ret2
            exact ⟨hbel.trans (hb3.mono hle), _, by rw [d2]; rfl, by rw [d1]; exact HO.out.step hb3⟩
          · obtain ⟨d1, d2⟩ := DN.out rfl (by rintro ⟨_, h⟩; exact hbs h)
            have hbe : ((bs (Rc.bytes La)).toList == (bs s).toList) = false := by rw [toListB, toListB]; exact beq_eq_false_iff_ne.2 hbs
            clear hown hrt hbs DB DN DY
            generalize Rc.bytes La = bt at *
            go_wp2_with (go_at_call 5; refine hcon.mono ?_; rintro e w3 ⟨rfl, hb3⟩)
            go_ret2
            exact ⟨hbel.trans (hb3.mono hle), .slice none 0 0, by rw [d2]; rfl, by rw [d1]; exact RowR.nil _ _⟩
end Go.Proofs.YtiogmegdkfnkkaaGreatDoor
namespace Go.Proofs.YtiogmegdkfnkkaaGreatDoor
open Go

section
variable {P : Program} {ops : Array Oper} {Q : Exit → Act → World → Prop} {md : Region.Mode} {S : World → Prop}
/-- Whatever order is picked among the first n operations, and S holds behind each of them; behind f of them: L. -/
def wpAnyS (P : Program) (md : Region.Mode) (ops : Array Oper) (Q : Exit → Act → World → Prop) (S : World → Prop) (n : Nat) (L : Array Bool → Act → World → Prop) : Nat → Array Bool → Act → World → Prop
  | 0, listed, a, w => L listed a w
  | f + 1, listed, a, w => Region.ready md ops listed ≠ [] ∧ ∀ i ∈ Region.ready md ops listed, i < n ∧ wpOp P ops Q i (fun a' w' => S w' ∧ wpAnyS P md ops Q S n L f (listed.setIfInBounds i true) a' w') a w
theorem wpAny_of_headS {n g : Nat} {L : Array Bool → Act → World → Prop} (hL : ∀ listed a w, L listed a w → wpAny P md ops Q g listed a w) :
    ∀ (f : Nat) (listed : Array Bool) (a : Act) (w : World), wpAnyS P md ops Q S n L f listed a w → wpAny P md ops Q (f + g) listed a w
  | 0, listed, a, w, h => by rw [Nat.zero_add]; exact hL _ _ _ h
  | f + 1, listed, a, w, h => by
    rw [show f + 1 + g = (f + g) + 1 by omega]
    exact ⟨fun h0 => absurd h0 h.1, fun i hi => wpOp_mono (fun a' w' h' => wpAny_of_headS hL f _ a' w' h'.2) (h.2 i hi).2⟩
theorem wpAnyS_first {n i : Nat} {oi : Oper} {v : Value} {L : Array Bool → Act → World → Prop} (hi : ops[i]? = some oi) (hsel : ∀ (j : Nat) (o : Oper) cs b, ops[j]? = some o → o.op ≠ .select cs b)
    (hQ : ∀ c a w, Q (.panic c) (a.put oi.dst v) w → Q (.panic c) a w)
    (hs : Region.sinkB md ops n = true) (hc : Region.chainB md ops n = true) (hn : n < ops.size) (hin : i < n)
    (hdone : ∀ listed a w, L listed a w → ∀ j ∈ Region.ready md ops listed, n ≤ j) :
    ∀ (f : Nat) (listed : Array Bool) (a : Act) (w : World), HeadInv md ops n listed →
      (∀ j oj, ops[j]? = some oj → j ≠ i → listed.getD j true = false → (∀ e ∈ oj.after, Region.binds md e = true → e.on ≠ i) → oi.apart ops oj = true) →
      i ∈ Region.ready md ops listed → YieldsIf P ops S oi v a → S w →
      wpAnyS P md ops Q S n L f (listed.setIfInBounds i true) (a.put oi.dst v) w → wpAnyS P md ops Q S n L (f + 1) listed a w := by
  intro f
  induction f with
  | zero =>
    intro listed a w inv _ hr hy hS H
    have hun := (mem_ready.1 hr).1
    refine ⟨fun h => (by rw [h] at hr; cases hr), fun j hj => ?_⟩
    have hjn : j < n := by
      rcases Nat.lt_or_ge j n with h | h
      · exact h
      · exact absurd hj (tail_waits hs hc hn inv _ i rfl hin hun j h)
    refine ⟨hjn, ?_⟩
    by_cases hji : j = i
    · subst hji; exact hy.wpOp hi hS ⟨hS, H⟩
    · have := hdone _ _ _ H j (ready_mono hj hji)
      omega
  | succ f ih =>
    intro listed a w inv hfree hr hy hS H
    have hun := (mem_ready.1 hr).1
    refine ⟨fun h => (by rw [h] at hr; cases hr), fun j hj => ?_⟩
    have hjn : j < n := by
      rcases Nat.lt_or_ge j n with h | h
      · exact h
      · exact absurd hj (tail_waits hs hc hn inv _ i rfl hin hun j h)
    refine ⟨hjn, ?_⟩
    by_cases hji : j = i
    · subst hji; exact hy.wpOp hi hS ⟨hS, H⟩
    · have h1 := (H.2 j (ready_mono hj hji)).2
      obtain ⟨hjun, oj, hoj, hall⟩ := mem_ready.1 hj
      have hnot : ∀ e ∈ oj.after, Region.binds md e = true → e.on ≠ i := fun e he hb heq => by
        have h1 := hall e he hb
        rw [heq, getD_both hun] at h1
        cases h1
      have h2 := wpOp_putIf hoj (hfree j oj hoj hji hjun hnot) (fun cs b => hsel i oi cs b hi) (fun cs b => hsel j oj cs b hoj) hQ hy h1
      have hfree' : ∀ k ok, ops[k]? = some ok → k ≠ i → (listed.setIfInBounds j true).getD k true = false →
          (∀ e ∈ ok.after, Region.binds md e = true → e.on ≠ i) → oi.apart ops ok = true := fun k ok hk hki hun hno => by
        refine hfree k ok hk hki ?_ hno
        by_cases hjk : j = k
        · subst hjk; exact hjun
        · rw [getD_set_ne true hjk] at hun; exact hun
      refine wpOp_mono (fun a' w' h3 => ⟨h3.2.1, ih (listed.setIfInBounds j true) a' w' (inv.set hj hjn) hfree' (ready_mono hr (Ne.symm hji)) h3.1 h3.2.1 ?_⟩) h2
      rw [Array.setIfInBounds_comm _ _ hji]
      exact h3.2.2

/-- The same, where what is listed is closed. -/
def WS (P : Program) (l : List Oper) (Q : Exit → Act → World → Prop) (S : World → Prop) (n f : Nat) (listed : Array Bool) (a : Act) (w : World) : Prop :=
  Region.lexTailB .any l.toArray n = true → HeadInv .any l.toArray n listed → wpAnyS P .any l.toArray Q S n (fun listed a w => Region.seqB .any l.toArray (l.toArray.size - n) n listed = true ∧ wpList P l.toArray Q (l.drop n) a w) f listed a w
theorem WS_take {l : List Oper} {n i : Nat} {oi : Oper} {v : Value} {f : Nat} {listed : Array Bool} {a : Act} {w : World} (hi : l.toArray[i]? = some oi) (hin : i < n)
    (hf : Region.free .any l.toArray listed i = true) (hr : (Region.ready .any l.toArray listed).contains i = true)
    (hQ : ∀ c a w, Q (.panic c) (a.put oi.dst v) w → Q (.panic c) a w) (hy : YieldsIf P l.toArray S oi v a) (hS : S w)
    (h : WS P l Q S n f (listed.setIfInBounds i true) (a.put oi.dst v) w) : WS P l Q S n (f + 1) listed a w := by
  intro hB0
  have hB := hB0
  simp only [Region.lexTailB, Bool.and_eq_true, decide_eq_true_eq] at hB
  obtain ⟨⟨⟨⟨hsel, hn⟩, hs⟩, hc⟩, _⟩ := hB
  have hr' : i ∈ Region.ready .any l.toArray listed := by simpa using hr
  exact fun inv => wpAnyS_first hi (Region.noSelect_spec hsel) hQ hs hc hn hin (fun listed' a' w' hL => seqB_ready hL.1) f listed a w inv (Region.free_spec hi hf) hr' hy hS (h hB0 (inv.set hr' hin))
/-- One alone may come up. -/
theorem WS_one {l : List Oper} {n i : Nat} {oi : Oper} {f : Nat} {listed : Array Bool} {a : Act} {w : World} (hi : l.toArray[i]? = some oi) (hin : i < n)
    (hr : Region.ready .any l.toArray listed = [i])
    (h : ∀ K : Act → World → Prop, (∀ a' w', S w' → WS P l Q S n f (listed.setIfInBounds i true) a' w' → K a' w') → if Region.wanted oi (yielded l.toArray a.tmps) = true then Oper.wp P oi a w K Q else K (a.put oi.dst undef) w) : WS P l Q S n (f + 1) listed a w := by
  intro hB0 inv
  have hmem : i ∈ Region.ready .any l.toArray listed := by rw [hr]; simp
  refine ⟨by rw [hr]; simp, fun j hj => ?_⟩
  have hji : j = i := by rw [hr] at hj; simpa using hj
  subst hji
  refine ⟨hin, ?_⟩
  have h2 := h (fun a' w' => S w' ∧ wpAnyS P .any l.toArray Q S n (fun listed a w => Region.seqB .any l.toArray (l.toArray.size - n) n listed = true ∧ wpList P l.toArray Q (l.drop n) a w) f (listed.setIfInBounds j true) a' w') (fun a' w' hS hW => ⟨hS, hW hB0 (inv.set hmem hin)⟩)
  unfold wpOp
  simp only [hi]
  split
  · next hw => rw [if_pos hw] at h2; exact .inl h2
  · next hw => rw [if_neg hw] at h2; exact h2
theorem WS_done {l : List Oper} {n : Nat} {listed : Array Bool} {a : Act} {w : World} (hq : Region.seqB .any l.toArray (l.toArray.size - n) n listed = true) (h : wpList P l.toArray Q (l.drop n) a w) : WS P l Q S n 0 listed a w := fun _ _ => ⟨hq, h⟩
theorem wp_region_headS {id : Nat} {a : Act} {w : World} {l : List Oper} (n : Nat) (S : World → Prop) (hm : P.follows .mixedOrders = true) (hB : Region.lexTailB .any l.toArray n = true)
    (h : WS P l Q S n n (Array.replicate l.toArray.size false) a w.drew) : (Code.region id l.toArray true).wp P Q a w := by
  have hB' := hB
  simp only [Region.lexTailB, Bool.and_eq_true, decide_eq_true_eq] at hB'
  obtain ⟨⟨⟨⟨hsel, hn⟩, hs⟩, hc⟩, hlex⟩ := hB'
  have inv0 : HeadInv .any l.toArray n (Array.replicate l.toArray.size false) :=
    ⟨by simp, fun j oj _ hl => (by rw [getD_replicate_false] at hl; cases hl), fun t _ ht => getD_in (by simpa using ht) (getD_replicate_false _ _)⟩
  have hdl : (l.drop n).length = l.toArray.size - n := by simp
  refine wp_region_any hm ?_
  have := wpAny_of_headS (g := l.toArray.size - n) (fun listed a w hL => by
    have := wpAny_of_seq (md := .any) (Q' := Q) (l.drop n) n listed a w (fun j => by simp [List.getElem?_drop]) (by rw [hdl]; exact hL.1) hL.2
    rwa [hdl] at this) _ _ _ _ (h hB inv0)
  rw [show n + (l.toArray.size - n) = l.toArray.size by omega] at this
  exact this
end
end Go.Proofs.YtiogmegdkfnkkaaGreatDoor
namespace Go.Proofs.YtiogmegdkfnkkaaGreatDoor
open Go

section
variable {P : Program} {ops : Array Oper} {Q : Exit → Act → World → Prop} {S : World → Prop}
/-- Everything behind operation n waits for something from n on. -/
def gateB (ops : Array Oper) (n : Nat) : Bool := (List.range ops.size).all fun t => decide (t ≤ n) || (List.range t).any fun j => decide (n ≤ j) && Region.waitsFor .any ops t j
theorem gate_waits {n : Nat} {listed : Array Bool} (hs : Region.sinkB .any ops n = true) (hc : gateB ops n = true) (inv : HeadInv .any ops n listed) :
    ∀ (d i : Nat), n - i = d → i < n → listed.getD i true = false → ∀ t, n ≤ t → t ∉ Region.ready .any ops listed := by
  intro d
  induction d using Nat.strongRecOn with
  | _ d ih =>
    intro i hd hi hun t ht hr
    obtain ⟨_, ot, hot, hall⟩ := mem_ready.1 hr
    have htlt : t < ops.size := (Array.getElem?_eq_some_iff.1 hot).1
    by_cases htn : t = n
    · subst htn
      have h1 := List.all_eq_true.1 hs i (List.mem_range.2 hi)
      obtain ⟨j, hj, hj2⟩ := List.any_eq_true.1 h1
      simp only [Bool.and_eq_true, decide_eq_true_eq] at hj2
      obtain ⟨oj, hoj, e, he, hb, hon⟩ := Region.waitsFor_spec hj2.2
      have hjle : j ≤ t := by have := List.mem_range.1 hj; omega
      by_cases hjt : j = t
      · subst hjt
        have : oj = ot := Option.some.inj (hoj.symm.trans hot)
        subst this
        have h2 := hall e he hb
        rw [hon, getD_both hun] at h2
        cases h2
      · cases hl : listed.getD j false with
        | true =>
          have h2 := inv.closed j oj hoj hl e he hb
          rw [hon, getD_both hun] at h2
          cases h2
        | false =>
          have hjs : j < listed.size := by rw [inv.size]; omega
          exact ih (t - j) (by omega) j rfl (by omega) (getD_in hjs hl) t (Nat.le_refl _) hr
    · have h1 := List.all_eq_true.1 hc t (List.mem_range.2 htlt)
      simp only [Bool.or_eq_true, decide_eq_true_eq] at h1
      rcases h1 with h1 | h1
      · omega
      · obtain ⟨j, hj, hj2⟩ := List.any_eq_true.1 h1
        simp only [Bool.and_eq_true, decide_eq_true_eq] at hj2
        obtain ⟨o', ho', e, he, hb, hon⟩ := Region.waitsFor_spec hj2.2
        have : o' = ot := Option.some.inj (ho'.symm.trans hot)
        subst this
        have h2 := hall e he hb
        have hjt := List.mem_range.1 hj
        rw [hon, getD_both (inv.tail j hj2.1 (by omega))] at h2
        cases h2
/-- What a stage asks of the region: nobody behind it comes up ahead of its end. -/
def stageB (ops : Array Oper) (n : Nat) : Bool := Region.noSelect ops && (decide (n = ops.size) || (Region.sinkB .any ops n && gateB ops n))
theorem stage_waits {n : Nat} (hB : stageB ops n = true) {listed : Array Bool} (inv : HeadInv .any ops n listed) {i : Nat} (hi : i < n) (hun : listed.getD i true = false) {t : Nat} (ht : t ∈ Region.ready .any ops listed) : t < n := by
  simp only [stageB, Bool.and_eq_true, Bool.or_eq_true, decide_eq_true_eq] at hB
  rcases hB.2 with h | ⟨h1, h2⟩
  · obtain ⟨_, ot, hot, _⟩ := mem_ready.1 ht
    rw [h]; exact (Array.getElem?_eq_some_iff.1 hot).1
  · rcases Nat.lt_or_ge t n with h | h
    · exact h
    · exact absurd ht (gate_waits h1 h2 inv _ i rfl hi hun t h)
theorem stage_first {n i : Nat} {oi : Oper} {v : Value} {L : Array Bool → Act → World → Prop} (hB : stageB ops n = true) (hi : ops[i]? = some oi)
    (hQ : ∀ c a w, Q (.panic c) (a.put oi.dst v) w → Q (.panic c) a w) (hin : i < n)
    (hdone : ∀ listed a w, L listed a w → ∀ j ∈ Region.ready .any ops listed, n ≤ j) :
    ∀ (f : Nat) (listed : Array Bool) (a : Act) (w : World), HeadInv .any ops n listed →
      (∀ j oj, ops[j]? = some oj → j ≠ i → listed.getD j true = false → (∀ e ∈ oj.after, Region.binds .any e = true → e.on ≠ i) → oi.apart ops oj = true) →
      i ∈ Region.ready .any ops listed → YieldsIf P ops S oi v a → S w →
      wpAnyS P .any ops Q S n L f (listed.setIfInBounds i true) (a.put oi.dst v) w → wpAnyS P .any ops Q S n L (f + 1) listed a w := by
  have hB' := hB
  simp only [stageB, Bool.and_eq_true] at hB'
  have hsel := Region.noSelect_spec hB'.1
  intro f
  induction f with
  | zero =>
    intro listed a w inv _ hr hy hS H
    have hun := (mem_ready.1 hr).1
    refine ⟨fun h => (by rw [h] at hr; cases hr), fun j hj => ?_⟩
    refine ⟨stage_waits hB inv hin hun hj, ?_⟩
    by_cases hji : j = i
    · subst hji; exact hy.wpOp hi hS ⟨hS, H⟩
    · have h1 := hdone _ _ _ H j (ready_mono hj hji)
      have h2 := stage_waits hB inv hin hun hj
      omega
  | succ f ih =>
    intro listed a w inv hfree hr hy hS H
    have hun := (mem_ready.1 hr).1
    refine ⟨fun h => (by rw [h] at hr; cases hr), fun j hj => ?_⟩
    have hjn := stage_waits hB inv hin hun hj
    refine ⟨hjn, ?_⟩
    by_cases hji : j = i
    · subst hji; exact hy.wpOp hi hS ⟨hS, H⟩
    · have h1 := (H.2 j (ready_mono hj hji)).2
      obtain ⟨hjun, oj, hoj, hall⟩ := mem_ready.1 hj
      have hnot : ∀ e ∈ oj.after, Region.binds .any e = true → e.on ≠ i := fun e he hb heq => by
        have h1 := hall e he hb
        rw [heq, getD_both hun] at h1
        cases h1
      have h2 := wpOp_putIf hoj (hfree j oj hoj hji hjun hnot) (fun cs b => hsel i oi cs b hi) (fun cs b => hsel j oj cs b hoj) hQ hy h1
      have hfree' : ∀ k ok, ops[k]? = some ok → k ≠ i → (listed.setIfInBounds j true).getD k true = false →
          (∀ e ∈ ok.after, Region.binds .any e = true → e.on ≠ i) → oi.apart ops ok = true := fun k ok hk hki hun hno => by
        refine hfree k ok hk hki ?_ hno
        by_cases hjk : j = k
        · subst hjk; exact hjun
        · rw [getD_set_ne true hjk] at hun; exact hun
      refine wpOp_mono (fun a' w' h3 => ⟨h3.2.1, ih (listed.setIfInBounds j true) a' w' (inv.set hj hjn) hfree' (ready_mono hr (Ne.symm hji)) h3.1 h3.2.1 ?_⟩) h2
      rw [Array.setIfInBounds_comm _ _ hji]
      exact h3.2.2

/-- What is listed behind the first n. -/
def Lst (N n : Nat) : Array Bool := (List.replicate n true ++ List.replicate (N - n) false).toArray
/-- The walk of a stage: f operations are left of it; behind it R holds. -/
def WG (P : Program) (l : List Oper) (Q : Exit → Act → World → Prop) (S : World → Prop) (n : Nat) (R : Act → World → Prop) (f : Nat) (listed : Array Bool) (a : Act) (w : World) : Prop :=
  stageB l.toArray n = true → (∀ j ∈ Region.ready .any l.toArray (Lst l.toArray.size n), n ≤ j) → HeadInv .any l.toArray n listed → wpAnyS P .any l.toArray Q S n (fun listed a w => listed = Lst l.toArray.size n ∧ R a w) f listed a w
theorem WG_take {l : List Oper} {n i : Nat} {R : Act → World → Prop} {oi : Oper} {v : Value} {f : Nat} {listed : Array Bool} {a : Act} {w : World} (hi : l.toArray[i]? = some oi) (hin : i < n)
    (hf : Region.free .any l.toArray listed i = true) (hr : (Region.ready .any l.toArray listed).contains i = true)
    (hQ : ∀ c a w, Q (.panic c) (a.put oi.dst v) w → Q (.panic c) a w) (hy : YieldsIf P l.toArray S oi v a) (hS : S w)
    (h : WG P l Q S n R f (listed.setIfInBounds i true) (a.put oi.dst v) w) : WG P l Q S n R (f + 1) listed a w := by
  intro hB hd inv
  have hr' : i ∈ Region.ready .any l.toArray listed := by simpa using hr
  exact stage_first hB hi hQ hin (fun listed' a' w' hL => by rw [hL.1]; exact hd) f listed a w inv (Region.free_spec hi hf) hr' hy hS (h hB hd (inv.set hr' hin))
/-- One step, whichever it is. -/
def StepG (P : Program) (l : List Oper) (Q : Exit → Act → World → Prop) (S : World → Prop) (n : Nat) (R : Act → World → Prop) (f : Nat) (listed : Array Bool) (a : Act) (w : World) (i : Nat) : Prop :=
  ∃ oi, l.toArray[i]? = some oi ∧ i < n ∧ ∀ K : Act → World → Prop, (∀ a' w', S w' → WG P l Q S n R f (listed.setIfInBounds i true) a' w' → K a' w') → if Region.wanted oi (yielded l.toArray a.tmps) = true then Oper.wp P oi a w K Q else K (a.put oi.dst undef) w
theorem stepG_op {l : List Oper} {n i : Nat} {R : Act → World → Prop} {f : Nat} {listed : Array Bool} {a : Act} {w : World} (hB : stageB l.toArray n = true) (hd : ∀ j ∈ Region.ready .any l.toArray (Lst l.toArray.size n), n ≤ j) (inv : HeadInv .any l.toArray n listed)
    (hmem : i ∈ Region.ready .any l.toArray listed) (h : StepG P l Q S n R f listed a w i) : i < n ∧ wpOp P l.toArray Q i (fun a' w' => S w' ∧ wpAnyS P .any l.toArray Q S n (fun listed a w => listed = Lst l.toArray.size n ∧ R a w) f (listed.setIfInBounds i true) a' w') a w := by
  obtain ⟨oi, hi, hin, h⟩ := h
  refine ⟨hin, ?_⟩
  have h2 := h (fun a' w' => S w' ∧ wpAnyS P .any l.toArray Q S n (fun listed a w => listed = Lst l.toArray.size n ∧ R a w) f (listed.setIfInBounds i true) a' w') (fun a' w' hS hW => ⟨hS, hW hB hd (inv.set hmem hin)⟩)
  unfold wpOp
  simp only [hi]
  split
  · next hw => rw [if_pos hw] at h2; exact .inl h2
  · next hw => rw [if_neg hw] at h2; exact h2
theorem WG_one {l : List Oper} {n : Nat} {R : Act → World → Prop} {f : Nat} {listed : Array Bool} {a : Act} {w : World} (i : Nat) (hr : Region.ready .any l.toArray listed = [i]) (h : StepG P l Q S n R f listed a w i) : WG P l Q S n R (f + 1) listed a w := by
  intro hB hd inv
  refine ⟨by rw [hr]; simp, fun j hj => ?_⟩
  have hji : j = i := by rw [hr] at hj; simpa using hj
  subst hji
  exact stepG_op hB hd inv hj h
theorem WG_two {l : List Oper} {n : Nat} {R : Act → World → Prop} {f : Nat} {listed : Array Bool} {a : Act} {w : World} (i k : Nat) (hr : Region.ready .any l.toArray listed = [i, k]) (h : StepG P l Q S n R f listed a w i) (h2 : StepG P l Q S n R f listed a w k) : WG P l Q S n R (f + 1) listed a w := by
  intro hB hd inv
  refine ⟨by rw [hr]; simp, fun j hj => ?_⟩
  have hji : j = i ∨ j = k := by rw [hr] at hj; simpa using hj
  rcases hji with rfl | rfl
  · exact stepG_op hB hd inv hj h
  · exact stepG_op hB hd inv hj h2
theorem WG_done {l : List Oper} {n : Nat} {R : Act → World → Prop} {listed : Array Bool} {a : Act} {w : World} (hq : listed = Lst l.toArray.size n) (h : R a w) : WG P l Q S n R 0 listed a w := fun _ _ _ => ⟨hq, h⟩
theorem lst_inv {l : List Oper} {m n : Nat} (hm : m ≤ n) (_hB : stageB l.toArray n = true) (hc : ((List.range l.toArray.size).all fun j => !((Lst l.toArray.size m).getD j false) || ((l.toArray[j]?).map fun o => o.after.all fun e => !Region.binds .any e || (Lst l.toArray.size m).getD e.on false).getD true) = true) (hs : (Lst l.toArray.size m).size = l.toArray.size) (hn : m ≤ l.toArray.size) : HeadInv .any l.toArray n (Lst l.toArray.size m) := by
  refine ⟨hs, fun j oj hj hl e he hb => ?_, fun t ht ht' => ?_⟩
  · have hlt : j < l.toArray.size := (Array.getElem?_eq_some_iff.1 hj).1
    have h1 := List.all_eq_true.1 hc j (List.mem_range.2 hlt)
    rw [hl, hj] at h1
    simp only [Bool.not_true, Bool.false_or, Option.map_some, Option.getD_some] at h1
    have h2 := Array.all_eq_true_iff_forall_mem.1 h1 e he
    rw [hb] at h2
    simpa using h2
  · unfold Lst
    rw [Array.getD_eq_getD_getElem?, List.getElem?_toArray, List.getElem?_append_right (by simp; omega), List.length_replicate, List.getElem?_replicate, if_pos (by omega)]
    rfl
/-- A stage, and what follows. -/
theorem wpAny_stage {l : List Oper} {m n f g : Nat} {R : Act → World → Prop} {a : Act} {w : World} (hm : m ≤ n) (hB : stageB l.toArray n = true) (hd : ∀ j ∈ Region.ready .any l.toArray (Lst l.toArray.size n), n ≤ j)
    (hc : ((List.range l.toArray.size).all fun j => !((Lst l.toArray.size m).getD j false) || ((l.toArray[j]?).map fun o => o.after.all fun e => !Region.binds .any e || (Lst l.toArray.size m).getD e.on false).getD true) = true) (hs : (Lst l.toArray.size m).size = l.toArray.size) (hn : m ≤ l.toArray.size)
    (h : WG P l Q S n R f (Lst l.toArray.size m) a w) (hR : ∀ a w, R a w → wpAny P .any l.toArray Q g (Lst l.toArray.size n) a w) : wpAny P .any l.toArray Q (f + g) (Lst l.toArray.size m) a w :=
  wpAny_of_headS (fun listed a w hL => by rw [hL.1]; exact hR a w hL.2) _ _ _ _ (h hB hd (lst_inv hm hB hc hs hn))
theorem wp_region_stages {id : Nat} {a : Act} {w : World} {l : List Oper} (k : Nat) (hm : P.follows .mixedOrders = true) (hN : l.toArray.size = k)
    (h : wpAny P .any l.toArray Q k (Lst l.toArray.size 0) a w.drew) : (Code.region id l.toArray true).wp P Q a w := by
  refine wp_region_any hm ?_
  have e : Array.replicate l.toArray.size false = Lst l.toArray.size 0 := by
    unfold Lst
    simp
  rw [e, hN]
  rw [hN] at h
  exact h
theorem cons_of {α : Type} {us : List α} {n : Nat} (h : us.length = n + 1) : ∃ u r, us = u :: r ∧ r.length = n := by
  cases us with
  | nil => simp at h
  | cons u r => exact ⟨u, r, rfl, by simpa using h⟩
theorem nil_of {α : Type} {us : List α} (h : us.length = 0) : us = [] := List.eq_nil_of_length_eq_zero h
theorem wp_cap {c : Code} {a : Act} {w : World} (h : ∀ a0, a0 = a → c.wp P Q a0 w) : c.wp P Q a w := h a rfl
end
end Go.Proofs.YtiogmegdkfnkkaaGreatDoor
