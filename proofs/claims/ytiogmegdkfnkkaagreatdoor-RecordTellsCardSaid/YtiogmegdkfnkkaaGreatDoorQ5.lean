/- A byte as a text. · wire.Put. · wire.Parse, the reference's Parse. · stetlaw20.Seens; one element more in rows of what was read. · copy, of elements of any size. · record.own. -/
import Derived.Test.YtiogmegdkfnkkaaGreatDoorRows
import Derived.Test.YtiogmegdkfnkkaaGreatDoorQ1
import Derived.Lib.SlBytesConst
import Derived.Test.YtiogmegdkfnkkaaGreatDoorQ4
import Derived.Test.YtiogmegdkfnkkaaGreatDoorShelf
import Derived.Lib.AppendIntMem
import Derived.Test.YtiogmegdkfnkkaaGreatDoorQ2
import Derived.Deep.DrawnRows
import Derived.Laws.CopyOwn
import Derived.Laws.IdiomCopy
namespace Go.Proofs.YtiogmegdkfnkkaaGreatDoor
open Go.RowKit Go.Lib Go.Sort Tx
theorem one_byte (w : World) (g : Nat) (hg : g = w.heap.size) (z : Int) (c : UInt8) (hz : z = (c.toNat : Int)) : (convert 89 9 (.slice (some ⟨g, 0, none⟩) 1 1)).run Tryz.prog (w.alloc (.cells #[.int .u8 z] 5)) = .ok (.string (bs [c])) (w.alloc (.cells #[.int .u8 z] 5)) := by
  subst hz hg
  exact run_convert_bytes_back (P := Tryz.prog) _ 89 9 5 ⟨w.heap.size, 0, none⟩ 1 [c] Tryz.underlying89 Tryz.underlying5 Tryz.underlying9 (fun j hj => by
    have : j = 0 := by simpa using hj
    subst this
    rw [Addr.add_lit, cell_of_row _ w.heap.size 0 _ 5 (0, 0) (heap_alloc_new w _)]
    rfl)
end Go.Proofs.YtiogmegdkfnkkaaGreatDoor
namespace Go.Proofs.YtiogmegdkfnkkaaGreatDoor
open Go.RowKit Go.Lib Go.Sort Tx

/-- What the listed variables hold, so far as it is read. -/
structure Gl (w : World) : Prop where
  et : ErrT w
  tab : Lib.TabIs Tryz.prog w "internal/strconv.uint64pow10" .u64 Lib.pow10Tab
theorem Gl.lt {w : World} (h : Gl w) : 1 < w.heap.size := World.block_lt_of_cell? w ⟨1, 0, none⟩ (by rw [h.et])
theorem Gl.below {w w' : World} (h : Gl w) (hb : Below w.heap.size w w') : Gl w' :=
  ⟨(hb.cell (p := ⟨1, 0, none⟩) h.lt).trans h.et, tabBelow_of_tabIs h.tab w' hb⟩
theorem below_via {w w1 w2 : World} (h : Below w.heap.size w w1) (h2 : Below w1.heap.size w1 w2) : Below w.heap.size w w2 := h.trans (h2.mono h.size)

theorem itoa_any (n : Nat) (hn : n ≤ 1000000000) (w : World) (hg : Gl w) :
    Calls Tryz.prog 30 #[.int .i64 n] w fun e w' => e = .returned (vs (Lib.decDigits n)) ∧ Below w.heap.size w w' := by
  refine (Tryz.strconv_Itoa (n : Int) (by omega) (by omega) w hg.tab).mono ?_
  rintro e w' ⟨rfl, k, os, rfl⟩
  refine ⟨?_, below_grow _ w (Nat.le_refl _) k os⟩
  have : Lib.itoa (n : Int) = Lib.decDigits n := by unfold Lib.itoa; rw [if_neg (by omega)]; simp
  rw [this]
  rfl

theorem dig_len (n : Nat) (hn : n ≤ 1000000000) : (Lib.decDigits n).length ≤ 10 := by
  have : ∀ k m : Nat, m < 10 ^ (k + 1) → (Lib.decDigits m).length ≤ k + 1 := by
    intro k
    induction k with
    | zero => intro m hm; rw [Lib.decDigits, dif_pos (by omega)]; simp
    | succ k ih =>
      intro m hm
      by_cases h : m < 10
      · rw [Lib.decDigits, dif_pos h]; simp
      · rw [Lib.decDigits, dif_neg h]
        have := ih (m / 10) (by rw [Nat.pow_succ] at hm; omega)
        simp
        omega
  exact this 9 n (by omega)

set_option maxHeartbeats 2000000 in
theorem wPut_any (s : Bs) (w : World) (hs : s.length ≤ 1000000000) (hg : Gl w) :
    Calls Tryz.prog 14 #[vs s] w fun e w' => e = .returned (vs (Wr.put s)) ∧ Below w.heap.size w w' := by
  have hz := bs_size s
  have HC := Lib.hid (itoa_any s.length hs w hg)
  have hd := dig_len s.length hs
  have HP : Hid (Wr.put s = Lib.decDigits s.length ++ 58 :: (s ++ [44])) := Lib.hid rfl
  generalize Lib.decDigits s.length = d at *
  have hdz : (bs d).size = d.length := bs_size d
  obtain ⟨T1, hT1⟩ : ∃ T, T = d ++ [58] := ⟨_, rfl⟩
  obtain ⟨T2, hT2⟩ : ∃ T, T = T1 ++ s := ⟨_, rfl⟩
  obtain ⟨T3, hT3⟩ : ∃ T, T = T2 ++ [44] := ⟨_, rfl⟩
  have o1 : bs d ++ (⟨#[58]⟩ : ByteArray) = bs T1 := by show bs d ++ bs [58] = _; rw [hT1, bs_append]
  have o2 : bs T1 ++ bs s = bs T2 := by rw [hT2, bs_append]
  have o3 : bs T2 ++ (⟨#[44]⟩ : ByteArray) = bs T3 := by show bs T2 ++ bs [44] = _; rw [hT3, bs_append]
  have l1 : (bs T1).size = d.length + 1 := by rw [bs_size, hT1]; simp
  have l2 : (bs T2).size = d.length + 1 + s.length := by rw [bs_size, hT2, hT1]; simp; omega
  have HE : Hid (T3 = Wr.put s) := Lib.hid (by rw [HP.out, hT3, hT2, hT1]; simp)
  clear hT1 hT2 hT3 HP hg
  go_enter Tryz.func14, Tryz.ntmps14
  go_wp2_with fail
  refine HC.out.mono ?_
  rintro e w1 ⟨rfl, hb⟩
  go_wp2_with fail
  go_ret
  exact ⟨by rw [HE.out]; rfl, hb⟩

end Go.Proofs.YtiogmegdkfnkkaaGreatDoor
namespace Go.Proofs.YtiogmegdkfnkkaaGreatDoor
open Go.RowKit Tx

theorem fileInfo : (Tryz.prog.info? 46).map (fun i => (i.zero, i.size, i.bytes)) = some (some (.agg #[.string ⟨#[]⟩, .string ⟨#[]⟩]), 2, 32) := by kernel_rfl
/-- 'out = append(out, f)' at rows of files. -/
theorem app_file {w0 : World} {ops : Array Oper} {rest : List Oper} {o : Oper} {a : Act} {Q : Exit → Act → World → Prop} (hgd : o.guard = none) (s x : Operand)
    (ho : o.op = .call { callee := .builtin .append, args := #[s, x], argTypes := #[40, 40] })
    (base : Nat) (v : Value) (l : List Wr.F) (u : Wr.F) (hs : a.eval s = v) (g : Nat) (hge : g = w0.heap.size) (hx : a.eval x = .slice (some ⟨g, 0, none⟩) 1 1)
    (hown : OwnC 46 2 ff base w0 v l) (hb : base ≤ w0.heap.size) (hl : l.length < 1000000)
    (h : ∀ v' w', OwnC 46 2 ff base w' v' (l ++ [u]) → Below base w0 w' → w0.grownBy w' v.ownBlock → wpList Tryz.prog ops Q rest (a.put o.dst v') w') :
    wpList Tryz.prog ops Q (o :: rest) a (w0.alloc (.cells #[.string (bs u.1), .string (bs u.2)] 46)) := by
  obtain ⟨i0, hi0, hz0, hz1, hz2⟩ := info_parts fileInfo
  refine wpList_appN hgd s x 40 ho base 46 i0 _ 2 32 Tryz.underlying40 hi0 hz0 hz1 hz2 rfl (by decide) v l.length (l.flatMap ff) (ff u) rfl (by simp [Value.oneCell']) hs g hge hx hown hb (by simp only [maxLen]; omega) (by omega) ?_
  intro v' w' h1 h2 h3
  exact h v' w' (by simpa [OwnC] using h1) (grown_below hown hb h2) h2

theorem step_file {w : World} {ops : Array Oper} {o : Oper} {a : Act} {K : Act → World → Prop} {Q : Exit → Act → World → Prop} {E : Prop} (hgd : o.guard = none) (s x : Operand)
    (ho : o.op = .call { callee := .builtin .append, args := #[s, x], argTypes := #[40, 40] })
    (base : Nat) (v : Value) (l : List Wr.F) (u : Wr.F) (hs : a.eval s = v) (g : Nat) (hx : a.eval x = .slice (some ⟨g, 0, none⟩) 1 1)
    (hg : w.heap[g]? = some (.cells #[vs u.1, vs u.2] 46 (0, 0)))
    (hown : OwnC 46 2 ff base w v l) (hb : base ≤ w.heap.size) (hl : l.length < 1000000)
    (h : ∀ v' w', OwnC 46 2 ff base w' v' (l ++ [u]) → Below base w w' → w.grownBy w' v.ownBlock → K (a.put o.dst v') w') :
    if Region.wanted o (yielded ops a.tmps) = true then Oper.wp Tryz.prog o a w K Q else E := by
  obtain ⟨i0, hi0, hz0, hz1, hz2⟩ := info_parts fileInfo
  refine step_appN hgd s x 40 ho base 46 i0 _ 2 32 Tryz.underlying40 hi0 hz0 hz1 hz2 rfl (by decide) v l.length (l.flatMap ff) (ff u) rfl (by simp [Value.oneCell']) hs g hx hg hown hb (by simp only [maxLen]; omega) (by omega) ?_
  intro v' w' h1 h2
  exact h v' w' (by simpa [OwnC] using h1) (grown_below hown hb h2) h2

theorem pairs_get : ∀ (j : Nat) (l : List Bs) (h : 2 * j + 1 < l.length), (Wr.pairs l)[j]? = some (l[2 * j], l[2 * j + 1]) := by
  intro j
  induction j with
  | zero =>
    intro l h
    match l, h with
    | x :: y :: r, _ => rfl
  | succ j ih =>
    intro l h
    match l, h with
    | x :: y :: r, h =>
      have := ih r (by simp at h; omega)
      show (Wr.pairs r)[j]? = _
      rw [this]
      rfl
theorem pairs_len (l : List Bs) : (Wr.pairs l).length = l.length / 2 := by
  have : ∀ (n : Nat) (l : List Bs), l.length ≤ n → (Wr.pairs l).length = l.length / 2 := by
    intro n
    induction n with
    | zero => intro l h; obtain rfl : l = [] := List.eq_nil_of_length_eq_zero (by omega); rfl
    | succ n ih =>
      intro l h
      match l, h with
      | [], _ => rfl
      | [x], _ => simp [Wr.pairs]
      | x :: y :: r, h =>
        have := ih r (by simp at h; omega)
        show (Wr.pairs r).length + 1 = _
        rw [this]
        simp
        omega
  exact this _ l (Nat.le_refl _)
theorem pairs_step (l : List Bs) (j : Nat) (h : 2 * j + 1 < l.length) : (Wr.pairs l).take (j + 1) = (Wr.pairs l).take j ++ [(l[2 * j], l[2 * j + 1])] := by
  have h1 : j < (Wr.pairs l).length := by rw [pairs_len]; omega
  have h2 := pairs_get j l h
  rw [List.getElem?_eq_getElem h1] at h2
  rw [List.take_succ_eq_append_getElem h1, Option.some.inj h2]
theorem pairs_mem (l : List Bs) (f : Wr.F) (h : f ∈ Wr.pairs l) : f.1 ∈ l ∧ f.2 ∈ l := by
  obtain ⟨j, hj, rfl⟩ := List.mem_iff_getElem.1 h
  have hl := pairs_len l
  have h2 := pairs_get j l (by omega)
  rw [List.getElem?_eq_getElem hj] at h2
  rw [Option.some.inj h2]
  exact ⟨List.getElem_mem _, List.getElem_mem _⟩
theorem puts_len (l : List Bs) : 3 * l.length ≤ (Wr.puts l).length := by
  induction l with
  | nil => simp
  | cons x l ih =>
    have := Wr.put_len x
    show _ ≤ (Wr.puts (x :: l)).length
    rw [show Wr.puts (x :: l) = Wr.put x ++ Wr.puts l by simp [Wr.puts]]
    simp
    omega

def parL (s : Bs) : List Wr.F := match Wr.parse s with | .ok l => l | .error _ => []
def parE (s : Bs) : Nat := match Wr.parse s with | .ok _ => 0 | .error e => e
def ParsePost (s : Bs) (w : World) (e : Ending) (w' : World) : Prop :=
  Below w.heap.size w w' ∧ ∃ v, e = .returned (.tuple #[v, .int .i64 (parE s : Nat)]) ∧ RowC 2 ff w' w'.heap.size v (parL s)
theorem all_errne (t : Wr.Bs) : ∀ (n : Nat) (e : Nat), t.length ≤ n → Wr.all t = .error e → e ≠ 0 := by
  intro n
  induction n generalizing t with
  | zero =>
    intro e h ha
    obtain rfl : t = [] := List.eq_nil_of_length_eq_zero (by omega)
    rw [Wr.all_nil] at ha; cases ha
  | succ n ih =>
    intro e h ha
    by_cases ht : t = []
    · subst ht; rw [Wr.all_nil] at ha; cases ha
    · match hg : Wr.get1 t 999999 with
      | .error y =>
        rw [Wr.all_err t y ht hg] at ha
        injection ha with ha
        have := get1_err _ _ _ hg
        omega
      | .ok (x, r) =>
        rw [Wr.all_ok t x r hg] at ha
        have hs := Wr.get1_short hg
        match hr : Wr.all r with
        | .error y =>
          rw [hr] at ha
          injection ha with ha
          subst ha
          exact ih r y (by omega) hr
        | .ok m => rw [hr] at ha; cases ha
theorem row_none (w : World) (B : Nat) : RowC 2 ff w B (.slice none 0 0) [] := ⟨0, by simp, by decide, .inl ⟨rfl, none, rfl⟩⟩

set_option maxRecDepth 100000 in
set_option maxHeartbeats 4000000 in
theorem wParse_any (s : Bs) (w : World) (hs : s.length ≤ 1000000) (hg : Gl w) :
    Calls Tryz.prog 35 #[vs s] w (ParsePost s w) := by
  have HA := Lib.hid (all_any s w hs hg.et)
  clear hg
  go_enter Tryz.func35, Tryz.ntmps35
  go_wp2_with fail
  refine HA.out.mono ?_
  rintro e w1 ⟨hb, v, rfl, hrow⟩
  match hall : Wr.all s with
  | .error y =>
    have hy := all_errne s s.length y (Nat.le_refl _) hall
    have hye : allE s = y := by unfold allE; rw [hall]
    have hyl : allL s = [] := by unfold allL; rw [hall]
    have HP : Hid (parE s = y ∧ parL s = []) := Lib.hid (by unfold parE parL Wr.parse; rw [hall]; exact ⟨rfl, rfl⟩)
    have hy0 : ((y : Int) != 0) = true := by simp; omega
    rw [hye]
    obtain ⟨A, cap, rfl, _⟩ := hrow.shape
    clear hrow hye hyl hall hy
    go_wp2_with fail
    go_ret2
    exact ⟨hb, .slice none 0 0, by rw [HP.out.1]; rfl, by rw [HP.out.2]; exact row_none _ _⟩
  | .ok L =>
    obtain ⟨hL1, hL2⟩ := Wr.all_inv s.length s L (Nat.le_refl _) hall
    have hll := puts_len L
    rw [← hL1] at hll
    have hye : allE s = 0 := by unfold allE; rw [hall]
    have hyl : allL s = L := by unfold allL; rw [hall]
    rw [hye]
    rw [hyl] at hrow
    have HP : Hid (Wr.parse s = if L.length % 2 = 1 then .error 5 else if Wr.right (Wr.pairs L) = true then .ok (Wr.pairs L) else .error 5) := Lib.hid (by unfold Wr.parse; rw [hall])
    have HL2 := Lib.hid hL2
    obtain ⟨A, cap, rfl, q1, q2, q3⟩ := hrow.shape
    have HC := Lib.hid q3
    clear hrow hye hyl hall hL1 hL2 q3
    have hpl := pairs_len L
    by_cases hodd : L.length % 2 = 1
    · have HQ : Hid (parE s = 5 ∧ parL s = []) := Lib.hid (by unfold parE parL; rw [HP.out, if_pos hodd]; exact ⟨rfl, rfl⟩)
      have ho : (((L.length : Int).tmod 2) != 0) = true := by
        rw [Int.tmod_eq_emod_of_nonneg (by omega)]
        have : ((L.length : Int) % 2) = 1 := by omega
        rw [this]; rfl
      have ho2 : ((L.length : Int) % 2 != 0) = true := by
        have : ((L.length : Int) % 2) = 1 := by omega
        rw [this]; rfl
      clear hodd hpl
      go_wp2_with fail
      go_ret2
      exact ⟨hb, .slice none 0 0, by rw [HQ.out.1]; rfl, by rw [HQ.out.2]; exact row_none _ _⟩
    · have ho : (((L.length : Int).tmod 2) != 0) = false := by
        rw [Int.tmod_eq_emod_of_nonneg (by omega)]
        have : ((L.length : Int) % 2) = 0 := by omega
        rw [this]; rfl
      have ho2 : ((L.length : Int) % 2 != 0) = false := by
        have : ((L.length : Int) % 2) = 0 := by omega
        rw [this]; rfl
      have hev : Hid (L.length % 2 = 0) := Lib.hid (by omega)
      have hod := Lib.hid hodd
      clear hodd
      obtain ⟨wq, rfl⟩ : ∃ wq, wq = w1 := ⟨_, rfl⟩
      have hle1 := hb.size
      have HPL := Lib.hid hpl
      clear hpl
      go_wp2_with fail
      go_loopw [6, 7] (fun o i wr => ∃ j : Nat, 2 * j ≤ L.length ∧ i = .int .i64 (2 * j : Nat) ∧ OwnC 46 2 ff wq.heap.size wr o ((Wr.pairs L).take j) ∧ Below wq.heap.size wq wr) (fun _ i _ => L.length - (RowKit.intOf i).toNat)
      case atStart => exact ⟨0, by omega, rfl, OwnC.nil _ _ _ _ _, Below.refl _ _⟩
      case round =>
        obtain ⟨j, hj, rfl, hown, hbel⟩ := hrel
        have hle := hbel.size
        have hol : ((Wr.pairs L).take j).length ≤ j := by simp; omega
        by_cases hlt : 2 * j < L.length
        · have h21 : 2 * j + 1 < L.length := by have := hev.out; omega
          obtain ⟨b, off, rfl, hbl, hc⟩ := HC.out (by rintro rfl; simp at hlt)
          have c0 := (hbel.cell (p := ⟨b, off + 2 * j, none⟩) hbl).trans (hc (2 * j) hlt)
          have c1 := (hbel.cell (p := ⟨b, off + (2 * j + 1), none⟩) hbl).trans (hc (2 * j + 1) h21)
          have HS := Lib.hid (pairs_step L j h21)
          generalize L[2 * j] = x at *
          generalize L[2 * j + 1] = y at *
          obtain ⟨k, hk⟩ : ∃ k, k = 2 * j := ⟨_, rfl⟩
          rw [← hk] at c0 c1 hlt h21 hj ⊢
          have HK := Lib.hid hk
          have hkj : k ≤ 1000000 := by omega
          have hjk : j < 1000000 := by omega
          have HO := Lib.hid hown
          clear hk hc hown
          have i0 : (0 : Int) ≤ (k : Int) := by omega
          have i1 : (k : Int) < (L.length : Int) := by omega
          have i2 : (k : Int) + 1 < (L.length : Int) := by omega
          have i3 : (0 : Int) ≤ (k : Int) + 1 := by omega
          have hw : IntKind.i64.wrap ((k : Int) + 1) = (k : Int) + 1 := IntWalk.i64_in _ (by omega)
          have ht : ((k : Int) + 1).toNat = k + 1 := by omega
          go_upto_region 10 with fail
          have hbase := hle
          go_region_held3 (fun wx => wx.cell? ⟨b, off + k, none⟩ = some (.string (bs x)) ∧ wx.cell? ⟨b, off + (k + 1), none⟩ = some (.string (bs y))) (first | go_keep | exact ⟨(h9.cell (p := ⟨b, off + k, none⟩) hbl).trans (Lib.cell?_alloc_marked _ c0), (h9.cell (p := ⟨b, off + (k + 1), none⟩) hbl).trans (Lib.cell?_alloc_marked _ c1)⟩) ((refine step_file (by rfl) (.tmp 26) (.tmp 37) (by rfl) wq.heap.size _ ((Wr.pairs L).take j) (x, y) (by rfl) wr.heap.size (by rfl) (heap_alloc_new _ _) (HO.out.below ((Below.refl _ _).alloc (Nat.le_refl _) _).drew) (by simp; omega) (by omega) ?_; intro v' w4 h8 h9 h10))
          go_wp2_with fail
          go_roundw
          case rel => exact ⟨j + 1, by have := HK.out; omega, by have := HK.out; congr 1; omega, by rw [HS.out]; exact h8, (hbel.alloc hle _).drew.trans h9⟩
          case measure => simp [RowKit.intOf]; omega
        · have hjl : (Wr.pairs L).length ≤ j := by have := hev.out; have := HPL.out; omega
          have HT : Hid ((Wr.pairs L).take j = Wr.pairs L) := Lib.hid (List.take_of_length_le hjl)
          rw [HT.out] at hown
          obtain ⟨k, hk⟩ : ∃ k, k = 2 * j := ⟨_, rfl⟩
          have hnl : ¬ k < L.length := by omega
          have hnli : (L.length : Int) ≤ (k : Int) := by omega
          rw [← hk]
          clear hk hlt hjl
          have HR := Lib.hid (fRight_any _ (Wr.pairs L) wr (hown.rowC ff_length) (fun f hf => by
            obtain ⟨h1, h2⟩ := pairs_mem L f hf
            have h3 := HL2.out _ h1
            have h4 := HL2.out _ h2
            exact ⟨by simp only [maxLen]; omega, by simp only [maxLen]; omega⟩))
          have HO := Lib.hid hown
          clear hown
          by_cases hrt : Wr.right (Wr.pairs L) = true
          · have HQ : Hid (parE s = 0 ∧ parL s = Wr.pairs L) := Lib.hid (by unfold parE parL; rw [HP.out, if_neg hod.out, if_pos hrt]; exact ⟨rfl, rfl⟩)
            rw [hrt] at HR
            clear hrt
            go_wp2_with fail
            refine HR.out.mono ?_
            rintro e w3 ⟨rfl, hb3⟩
            go_wp2_with fail
            go_ret2
            exact ⟨below_via hb (below_via hbel hb3), _, by rw [HQ.out.1]; rfl, by rw [HQ.out.2]; exact (HO.out.below hb3).rowC ff_length⟩
          · have HQ : Hid (parE s = 5 ∧ parL s = []) := Lib.hid (by unfold parE parL; rw [HP.out, if_neg hod.out, if_neg hrt]; exact ⟨rfl, rfl⟩)
            have hrt : Wr.right (Wr.pairs L) = false := by simpa using hrt
            rw [hrt] at HR
            clear hrt
            go_wp2_with fail
            refine HR.out.mono ?_
            rintro e w3 ⟨rfl, hb3⟩
            go_wp2_with fail
            go_ret2
            exact ⟨below_via hb (below_via hbel hb3), .slice none 0 0, by rw [HQ.out.1]; rfl, by rw [HQ.out.2]; exact row_none _ _⟩
end Go.Proofs.YtiogmegdkfnkkaaGreatDoor
namespace Go.Proofs.YtiogmegdkfnkkaaGreatDoor
open Go.RowKit Tx

theorem snInfo : (Tryz.prog.info? 72).map (fun i => (i.zero, i.size, i.bytes)) = some (some (.agg #[.string ⟨#[]⟩, .bool false, .string ⟨#[]⟩]), 3, 40) := by kernel_rfl
theorem step_seen {w : World} {ops : Array Oper} {o : Oper} {a : Act} {K : Act → World → Prop} {Q : Exit → Act → World → Prop} {E : Prop} (hgd : o.guard = none) (s x : Operand)
    (ho : o.op = .call { callee := .builtin .append, args := #[s, x], argTypes := #[50, 50] })
    (base : Nat) (v : Value) (l : List Rc.Seen) (u : Rc.Seen) (hs : a.eval s = v) (g : Nat) (hx : a.eval x = .slice (some ⟨g, 0, none⟩) 1 1)
    (hg : w.heap[g]? = some (.cells #[vs u.1, .bool u.2.1, vs u.2.2] 72 (0, 0)))
    (hown : OwnC 72 3 sf base w v l) (hb : base ≤ w.heap.size) (hl : l.length < 1000000)
    (h : ∀ v' w', OwnC 72 3 sf base w' v' (l ++ [u]) → Below base w w' → w.grownBy w' v.ownBlock → K (a.put o.dst v') w') :
    if Region.wanted o (yielded ops a.tmps) = true then Oper.wp Tryz.prog o a w K Q else E := by
  obtain ⟨i0, hi0, hz0, hz1, hz2⟩ := info_parts snInfo
  refine step_appN hgd s x 50 ho base 72 i0 _ 3 40 Tryz.underlying50 hi0 hz0 hz1 hz2 rfl (by decide) v l.length (l.flatMap sf) (sf u) rfl (by simp [Value.oneCell']) hs g hx hg hown hb (by simp only [maxLen]; omega) (by omega) ?_
  intro v' w' h1 h2
  exact h v' w' (by simpa [OwnC] using h1) (grown_below hown hb h2) h2

set_option maxRecDepth 100000 in
set_option maxHeartbeats 4000000 in
theorem lseens_any (v : Value) (l : List Rc.Seen) (w : World) (hr : RowC 3 sf w w.heap.size v l) (hn : l.length < 1000000) :
    Calls Tryz.prog 18 #[v] w fun e w' => ∃ o, e = .returned o ∧ RowC 3 sf w' w'.heap.size o l ∧ (∀ b, blkOf o = some b → w.heap.size ≤ b) ∧ Below w.heap.size w w' := by
  obtain ⟨A, cap, rfl, c1, c2, c3⟩ := hr.shape
  have HC := Lib.hid c3
  have hmade := OwnC.made 72 3 sf w.heap.size w (Nat.le_refl _)
  clear c3 hr
  go_enter Tryz.func18, Tryz.ntmps18
  go_wp2_with fail
  go_loopw [3, 4] (fun o i wr => ∃ k : Nat, k ≤ l.length ∧ i = .int .i64 k ∧ OwnC 72 3 sf w.heap.size wr o (l.take k) ∧ Below w.heap.size w wr) (fun _ i _ => l.length - (RowKit.intOf i).toNat)
  case atStart => exact ⟨0, Nat.zero_le _, rfl, hmade, (Below.refl _ _).alloc (Nat.le_refl _) _⟩
  case round =>
    clear hmade
    obtain ⟨k, hk, rfl, hown, hbel⟩ := hrel
    have hle := hbel.size
    have hol : (l.take k).length ≤ k := by simp; omega
    by_cases hlt : k < l.length
    · obtain ⟨b, off, rfl, hbl, hc⟩ := HC.out (by rintro rfl; simp at hlt)
      obtain ⟨k1, k2, k3⟩ := sf_cells (fun i u hu => (hbel.cell (p := ⟨b, off + k * 3 + i, none⟩) hbl).trans (hc k hlt i u hu))
      have HA : Hid (l.take (k + 1) = l.take k ++ [l[k]]) := Lib.hid (List.take_succ_eq_append_getElem hlt)
      generalize l[k] = x at *
      obtain ⟨x0, x1, x2⟩ := x
      simp only at k1 k2 k3
      have HO := Lib.hid hown
      clear hc hown
      have i0 : (0 : Int) ≤ (k : Int) := by omega
      have i1 : (k : Int) < (l.length : Int) := by omega
      go_upto_region 5 with fail
      have hbase := hle
      go_region_held3 (fun wx => wx.cell? ⟨b, off + k * 3, none⟩ = some (.string (bs x0)) ∧ wx.cell? ⟨b, off + k * 3 + 1, none⟩ = some (.bool x1) ∧ wx.cell? ⟨b, off + k * 3 + 2, none⟩ = some (.string (bs x2))) (first | go_keep | exact ⟨(h9.cell (p := ⟨b, off + k * 3, none⟩) hbl).trans (Lib.cell?_alloc_marked _ k1), (h9.cell (p := ⟨b, off + k * 3 + 1, none⟩) hbl).trans (Lib.cell?_alloc_marked _ k2), (h9.cell (p := ⟨b, off + k * 3 + 2, none⟩) hbl).trans (Lib.cell?_alloc_marked _ k3)⟩) ((refine step_seen (by rfl) (.tmp 12) (.tmp 29) (by rfl) w.heap.size _ (l.take k) (x0, x1, x2) (by rfl) wr.heap.size (by rfl) (heap_alloc_new _ _) (HO.out.below ((Below.refl _ _).alloc (Nat.le_refl _) _).drew) (by simp; omega) (by omega) ?_; intro v' w4 h8 h9 h10))
      go_wp2_with fail
      go_roundw
      case rel => exact ⟨k + 1, by omega, by go_num, by rw [HA.out]; exact h8, (hbel.alloc hle _).drew.trans h9⟩
      case measure => simp [RowKit.intOf]; omega
    · obtain rfl : k = l.length := by omega
      rw [List.take_length] at hown
      go_wp2_with fail
      go_ret
      exact ⟨_, rfl, hown.rowC sf_length, fun b hb => (hown.lt b (own_blk hb)).1, hbel⟩
end Go.Proofs.YtiogmegdkfnkkaaGreatDoor
namespace Go.Proofs.YtiogmegdkfnkkaaGreatDoor
open Go.RowKit

theorem run_copy_rowN {P : Program} (n : Nat) (w : World) (dT sT ty elem : TypeId) (g o dLen dCap : Nat) (a : Addr) (sLen sCap : Nat) (cur : Array Value) (t : TypeId) (cs : List Value) (m : Nat)
    (hu : P.underlying dT = some (.slice elem)) (hs : (P.info? elem).map (·.size) = some n)
    (hg : w.heap[g]? = some (.cells cur t (0, 0))) (hm : Nat.min sLen dLen = m) (hn : cs.length = m * n)
    (hsrc : ∀ j v, cs[j]? = some v → w.cell? (a.add j) = some v) (hfit : o + cs.length ≤ cur.size) (h1 : ∀ v ∈ cs, v.oneCell' = true) :
    (Builtin.copy_ #[dT, sT] ty #[.slice (some ⟨g, o, none⟩) dLen dCap, .slice (some a) sLen sCap]).run P w =
      .ok (goInt m) (w.setRow g (cur.toList.take o ++ cs ++ cur.toList.drop (o + cs.length)).toArray) := by
  have hl := run_loadCells_list (P := P) w a cs hsrc
  have hst := run_storeCells_at P g o t cs 0 cur w hg (by simpa using hfit) h1
  cases hq : P.info? elem with
  | none => simp [hq] at hs
  | some i =>
    have hi : i.size = n := by simpa [hq] using hs
    rw [hn] at hl
    have hl2 := hl
    rw [Nat.mul_comm] at hl2
    simp [Builtin.copy_, run_underlying hu, Builtin.lenOf, Builtin.firstCells, sizeOf, typeInfo, hq, hi, hm, hl, hst]
theorem run_copy_noneN {P : Program} (n : Nat) (w : World) (dT sT ty elem : TypeId) (d a : Option Addr) (dLen dCap sLen sCap : Nat) (hu : P.underlying dT = some (.slice elem)) (hs : (P.info? elem).map (·.size) = some n) (hn : Nat.min sLen dLen = 0) :
    (Builtin.copy_ #[dT, sT] ty #[.slice d dLen dCap, .slice a sLen sCap]).run P w = .ok (goInt 0) w := by
  cases hq : P.info? elem with
  | none => simp [hq] at hs
  | some i =>
    have hl : ∀ (x : Addr), (loadCells x 0).run P w = .ok #[] w := fun x => by simpa using run_loadCells_list (P := P) w x [] (by simp)
    cases d <;> cases a <;> simp [Builtin.copy_, run_underlying hu, Builtin.lenOf, Builtin.firstCells, sizeOf, typeInfo, hq, hn, storeCells, hl]
/-- A whole row goes over into a block of its size. -/
theorem run_copyC {α : Type} {P : Program} {w : World} (dT sT ty : TypeId) (elem : TypeId) (hu : P.underlying dT = some (.slice elem)) (n : Nat) (hsz : (P.info? elem).map (·.size) = some n)
    (f : α → List Value) (hf : ∀ x, (f x).length = n) (hone : ∀ x, ∀ v ∈ f x, v.oneCell' = true) (xs : List α) (B : Nat) (sv : Value) (hrow : RowC n f w B sv xs)
    (g c : Nat) (cur : Array Value) (t : TypeId) (hg : w.heap[g]? = some (.cells cur t (0, 0))) (hcur : cur.size = xs.length * n) :
    (Builtin.copy_ #[dT, sT] ty #[.slice (some ⟨g, 0, none⟩) xs.length c, sv]).run P w = .ok (goInt xs.length) (w.setRow g (xs.flatMap f).toArray) := by
  have hlen := flat_length hf xs
  obtain ⟨A, cap, rfl, h1, h2, h3⟩ := hrow.shape
  by_cases hx : xs = []
  · subst hx
    have hrun := run_copy_noneN (P := P) n w dT sT ty elem (some ⟨g, 0, none⟩) A 0 c 0 cap hu hsz rfl
    have he : w.setRow g (([] : List α).flatMap f).toArray = w := by
      have : cur = #[] := Array.eq_empty_of_size_eq_zero (by simpa using hcur)
      subst this
      exact setRow_self w g _ t (0, 0) hg
    rw [he]
    exact hrun
  · obtain ⟨b, off, rfl, hb, hc⟩ := h3 hx
    have hsrc : ∀ j v, (xs.flatMap f)[j]? = some v → w.cell? ((⟨b, off, none⟩ : Addr).add j) = some v := by
      intro j v hj
      rw [Addr.add_lit]
      have hjl : j < xs.length * n := by
        rw [← hlen]
        exact (List.getElem?_eq_some_iff.1 hj).1
      have hn0 : 0 < n := by
        rcases Nat.eq_zero_or_pos n with h0 | h0
        · subst h0; omega
        · exact h0
      have hq : j / n < xs.length := Nat.div_lt_of_lt_mul (by rw [Nat.mul_comm]; exact hjl)
      have hj2 : j / n * n + j % n = j := by rw [Nat.mul_comm]; exact Nat.div_add_mod j n
      rw [← hj2, flat_at hf xs (j / n) (j % n) hq (Nat.mod_lt _ hn0)] at hj
      have := hc (j / n) hq (j % n) v hj
      rw [Nat.add_assoc, hj2] at this
      exact this
    have hrun := run_copy_rowN (P := P) n w dT sT ty elem g 0 xs.length c ⟨b, off, none⟩ xs.length cap cur t (xs.flatMap f) xs.length hu hsz hg (by simp) hlen hsrc (by rw [hlen, hcur]; omega) (fun v hv => by
      obtain ⟨x, _, hx2⟩ := List.mem_flatMap.1 hv
      exact hone x v hx2)
    have he : (cur.toList.take 0 ++ xs.flatMap f ++ cur.toList.drop (0 + (xs.flatMap f).length)).toArray = (xs.flatMap f).toArray := by
      rw [List.take_zero, List.nil_append, List.drop_eq_nil_of_le (by rw [hlen]; simp [hcur]), List.append_nil]
    rw [he] at hrun
    exact hrun
end Go.Proofs.YtiogmegdkfnkkaaGreatDoor
namespace Go.Proofs.YtiogmegdkfnkkaaGreatDoor
open Go.RowKit Tx

theorem pnInfo : (Tryz.prog.info? 44).map (fun i => (i.zero, i.size, i.bytes)) = some (some (.agg #[.string ⟨#[]⟩, .bool false, .string ⟨#[]⟩]), 3, 40) := by kernel_rfl
theorem run_makeN {P : Program} (t e : TypeId) (z : Value) (size bytes : Nat) (ht : P.underlying t = some (.slice e)) (hinfo : (P.info? e).map (fun i => (i.zero, i.size, i.bytes)) = some (some z, size, bytes)) (n : Nat) (hn : n ≤ 1000000) (hb : bytes ≤ 1000) :
    ∃ cur : Array Value, cur.size = n * size ∧ ∀ w : World, (Instr.makeSlice t (.int .i64 (n : Int)) (.int .i64 (n : Int))).run P w = .ok (.slice (some ⟨w.heap.size, 0, none⟩) n n) (w.alloc (.cells cur e)) := by
  obtain ⟨i0, hi0, hz0, hz1, hz2⟩ := info_parts hinfo
  refine ⟨madeCells z.cells (n * size), by simp [madeCells], fun w => ?_⟩
  have h := run_make (P := P) w t e i0 z ht hi0 hz0 .i64 .i64 (n : Int) (n : Int) (by omega) (by omega) (by rw [hz2]; have := Nat.mul_le_mul hb hn; omega) (by omega)
  simp only [Int.toNat_natCast, hz1] at h
  exact h
theorem cells_setCell {w : World} {b j : Nat} {c : Array Value} {t : TypeId} (h : w.heap[b]? = some (.cells c t (0, 0))) (v : Value) : (w.setCell ⟨b, j, none⟩ v).heap[b]? = some (.cells (c.setIfInBounds j v) t (0, 0)) := by
  have hlt := lt_of_block h
  have h' : w.heap[b] = .cells c t (0, 0) := by simpa [Array.getElem?_eq_getElem hlt] using h
  show (w.heap.modify b _)[b]? = _
  rw [Array.getElem?_eq_getElem (by simpa using hlt), Array.getElem_modify_self, h']
  rfl
theorem four (w : World) (o1 o2 o3 o4 : Obj) : ((((w.alloc o1).alloc o2).alloc o3).alloc o4).heap[w.heap.size]? = some o1 ∧ ((((w.alloc o1).alloc o2).alloc o3).alloc o4).heap[w.heap.size + 1]? = some o2 ∧ ((((w.alloc o1).alloc o2).alloc o3).alloc o4).heap[w.heap.size + 1 + 1]? = some o3 ∧ ((((w.alloc o1).alloc o2).alloc o3).alloc o4).heap[w.heap.size + 1 + 1 + 1]? = some o4 := by
  have s1 : (w.alloc o1).heap.size = w.heap.size + 1 := by simp
  have s2 : ((w.alloc o1).alloc o2).heap.size = w.heap.size + 1 + 1 := by simp
  have s3 : (((w.alloc o1).alloc o2).alloc o3).heap.size = w.heap.size + 1 + 1 + 1 := by simp
  refine ⟨?_, ?_, ?_, ?_⟩
  · rw [Below.heap_alloc _ _ _ (by omega), Below.heap_alloc _ _ _ (by omega), Below.heap_alloc _ _ _ (by omega)]; exact heap_alloc_new _ _
  · rw [Below.heap_alloc _ _ _ (by omega), Below.heap_alloc _ _ _ (by omega), ← s1]; exact heap_alloc_new _ _
  · rw [Below.heap_alloc _ _ _ (by omega), ← s2]; exact heap_alloc_new _ _
  · rw [← s3]; exact heap_alloc_new _ _
theorem setCell_oth (w : World) (b j k : Nat) (v : Value) (h : k ≠ b) : (w.setCell ⟨b, j, none⟩ v).heap[k]? = w.heap[k]? := by
  show (w.heap.modify b _)[k]? = _
  rw [Array.getElem?_modify, if_neg (fun e => h e.symm)]
theorem set3_oth (w : World) (b k : Nat) (v0 v1 v2 : Value) (h : k ≠ b) : (((w.setCell ⟨b, 0, none⟩ v0).setCell ⟨b, 1, none⟩ v1).setCell ⟨b, 2, none⟩ v2).heap[k]? = w.heap[k]? := by
  rw [setCell_oth _ _ _ _ _ h, setCell_oth _ _ _ _ _ h, setCell_oth _ _ _ _ _ h]
/-- A row whose block is known whole. -/
theorem rowC_block {α : Type} {n : Nat} {f : α → List Value} (hf : ∀ x, (f x).length = n) {e : TypeId} {l : List α} {w : World} {g B : Nat} (h : w.heap[g]? = some (.cells (l.flatMap f).toArray e (0, 0))) (hB : g < B) (hm : l.length ≤ maxLen) :
    RowC n f w B (.slice (some ⟨g, 0, none⟩) l.length l.length) l := by
  refine ⟨l.length, Nat.le_refl _, hm, .inr ⟨g, 0, rfl, hB, fun j hj i u hu => ?_⟩⟩
  have hi : i < n := by
    have := (List.getElem?_eq_some_iff.1 hu).1
    rw [hf] at this; exact this
  rw [Nat.zero_add, cell_of_row _ g (j * n + i) _ e (0, 0) h]
  rw [List.getElem?_toArray, flat_at hf l j i hj hi]
  exact hu
set_option maxRecDepth 100000 in
set_option maxHeartbeats 4000000 in
theorem own_any (r : Raw) (x : Rc.Rec) (w : World) (h : RecIs w w.heap.size r x) (h1 : x.2.1.length ≤ 1000000) (h2 : x.2.2.length ≤ 1000000) :
    Calls Tryz.prog 42 #[.agg #[vs r.1, r.2.1, r.2.2]] w fun e w' => ∃ r' : Raw, e = .returned (.agg #[vs r'.1, r'.2.1, r'.2.2]) ∧ RecIs w' w'.heap.size r' x ∧ (∀ b, blkOf r'.2.1 = some b → w.heap.size ≤ b) ∧ (∀ b, blkOf r'.2.2 = some b → w.heap.size ≤ b) ∧ Below w.heap.size w w' := by
  obtain ⟨r0, r1, r2⟩ := r
  obtain ⟨e1, e2, e3⟩ := h
  simp only at e1 e2 e3
  subst e1
  obtain ⟨cur1, k1, m1⟩ := run_makeN (P := Tryz.prog) _ _ _ _ _ Tryz.underlying39 pnInfo x.2.1.length h1 (by decide)
  obtain ⟨cur2, k2, m2⟩ := run_makeN (P := Tryz.prog) _ _ _ _ _ Tryz.underlying40 fileInfo x.2.2.length h2 (by decide)
  obtain ⟨A1, c1, rfl, p1, p2, p3⟩ := e2.shape
  obtain ⟨A2, c2, rfl, q1, q2, q3⟩ := e3.shape
  have E2 := Lib.hid e2
  have E3 := Lib.hid e3
  clear p3 q3 e2 e3
  go_enter Tryz.func42, Tryz.ntmps42
  go_wp2_with fail
  have sz1 : (Tryz.prog.info? 44).map (·.size) = some 3 := by kernel_rfl
  have sz2 : (Tryz.prog.info? 46).map (·.size) = some 2 := by kernel_rfl
  have b1 : ∀ o1 o2 o3 o4 : Obj, Below w.heap.size w ((((w.alloc o1).alloc o2).alloc o3).alloc o4) := fun o1 o2 o3 o4 => ((((Below.refl _ w).alloc (Nat.le_refl _) _).alloc (by simp) _).alloc (by simp; omega) _).alloc (by simp; omega) _
  have hB := b1 (.cells #[vs x.1, .slice A1 x.2.1.length c1, .slice A2 x.2.2.length c2] 42) (.cells #[.string ⟨#[]⟩, .slice none 0 0, .slice none 0 0] 42) (.cells cur1 44) (.cells cur2 46)
  obtain ⟨g3, g4, g1, g2⟩ := four w (.cells #[vs x.1, .slice A1 x.2.1.length c1, .slice A2 x.2.2.length c2] 42) (.cells #[.string ⟨#[]⟩, .slice none 0 0, .slice none 0 0] 42) (.cells cur1 44) (.cells cur2 46)
  generalize hW : (((w.alloc (.cells #[vs x.1, .slice A1 x.2.1.length c1, .slice A2 x.2.2.length c2] 42)).alloc (.cells #[.string ⟨#[]⟩, .slice none 0 0, .slice none 0 0] 42)).alloc (.cells cur1 44)).alloc (.cells cur2 46) = W at *
  have G1 := run_copyC (P := Tryz.prog) (w := W) 39 39 3 44 Tryz.underlying39 3 sz1 sf sf_length (fun y => by simp [Value.oneCell']) x.2.1 w.heap.size _ (E2.out.below hB (Nat.le_refl _)) (w.heap.size + 1 + 1) x.2.1.length cur1 44 g1 k1
  have hB2 := below_setRow hB (show w.heap.size ≤ w.heap.size + 1 + 1 by omega) (x.2.1.flatMap sf).toArray
  have G2 := run_copyC (P := Tryz.prog) (w := W.setRow (w.heap.size + 1 + 1) (x.2.1.flatMap sf).toArray) 40 40 3 46 Tryz.underlying40 2 sz2 ff ff_length (fun y => by simp [Value.oneCell']) x.2.2 w.heap.size _ (E3.out.below hB2 (Nat.le_refl _)) (w.heap.size + 1 + 1 + 1) x.2.2.length cur2 46 (by rw [setRow_other _ _ _ _ (by omega)]; exact g2) k2
  have c3 : (W.setRow (w.heap.size + 1 + 1) (x.2.1.flatMap sf).toArray).cell? ⟨w.heap.size, 2, none⟩ = some (.slice A2 x.2.2.length c2) := by
    rw [cell_of_row _ w.heap.size 2 _ 42 (0, 0) (by rw [setRow_other _ _ _ _ (by omega)]; exact g3)]; rfl
  have c4 : ((W.setRow (w.heap.size + 1 + 1) (x.2.1.flatMap sf).toArray).setRow (w.heap.size + 1 + 1 + 1) (x.2.2.flatMap ff).toArray).cell? ⟨w.heap.size, 0, none⟩ = some (vs x.1) := by
    rw [cell_of_row _ w.heap.size 0 _ 42 (0, 0) (by rw [setRow_other _ _ _ _ (by omega), setRow_other _ _ _ _ (by omega)]; exact g3)]; rfl
  have g5 : ((W.setRow (w.heap.size + 1 + 1) (x.2.1.flatMap sf).toArray).setRow (w.heap.size + 1 + 1 + 1) (x.2.2.flatMap ff).toArray).heap[w.heap.size + 1]? = some (.cells #[.string ⟨#[]⟩, .slice none 0 0, .slice none 0 0] 42 (0, 0)) := by
    rw [setRow_other _ _ _ _ (by omega), setRow_other _ _ _ _ (by omega)]; exact g4
  have c5 := cell_of_row _ (w.heap.size + 1) 0 _ _ _ g5
  have c6 := cell_of_row _ (w.heap.size + 1) 1 _ _ _ g5
  have c7 := cell_of_row _ (w.heap.size + 1) 2 _ _ _ g5
  simp only [List.getElem?_toArray, List.getElem?_cons_zero, List.getElem?_cons_succ] at c5 c6 c7
  have f5 : ∀ j, ((W.setRow (w.heap.size + 1 + 1) (x.2.1.flatMap sf).toArray).setRow (w.heap.size + 1 + 1 + 1) (x.2.2.flatMap ff).toArray).frozen? ⟨w.heap.size + 1, j, none⟩ = false := fun j => by simp [World.frozen?, g5]
  have f6 := f5 0
  have f7 := f5 1
  have f8 := f5 2
  rw [G1]
  go_wp2_with fail

  have hB3 := below_setRow hB2 (show w.heap.size ≤ w.heap.size + 1 + 1 + 1 by omega) (x.2.2.flatMap ff).toArray
  have r3 := cells_setCell (cells_setCell (cells_setCell g5 (j := 0) (vs x.1)) (j := 1) (.slice (some ⟨w.heap.size + 1 + 1, 0, none⟩) x.2.1.length x.2.1.length)) (j := 2) (.slice (some ⟨w.heap.size + 1 + 1 + 1, 0, none⟩) x.2.2.length x.2.2.length)
  have u0 := cell_of_row _ (w.heap.size + 1) 0 _ _ _ r3
  have u1 := cell_of_row _ (w.heap.size + 1) 1 _ _ _ r3
  have u2 := cell_of_row _ (w.heap.size + 1) 2 _ _ _ r3
  refine bodyPost_ret (v := .agg #[vs x.1, .slice (some ⟨w.heap.size + 1 + 1, 0, none⟩) x.2.1.length x.2.1.length, .slice (some ⟨w.heap.size + 1 + 1 + 1, 0, none⟩) x.2.2.length x.2.2.length]) (by
    simp [results, Tryz.f42, go_sem, u0, u1, u2, Array.setIfInBounds]) rfl ?_
  have R1 := setRow_heap _ _ _ (x.2.1.flatMap sf).toArray _ _ g1
  have R2 := setRow_heap (W.setRow (w.heap.size + 1 + 1) (x.2.1.flatMap sf).toArray) (w.heap.size + 1 + 1 + 1) _ (x.2.2.flatMap ff).toArray _ _ (by rw [setRow_other _ _ _ _ (by omega)]; exact g2)
  rw [← setRow_other _ (w.heap.size + 1 + 1 + 1) _ (x.2.2.flatMap ff).toArray (by omega)] at R1
  have hWs : W.heap.size = w.heap.size + 1 + 1 + 1 + 1 := by rw [← hW]; simp
  have hz : (((((W.setRow (w.heap.size + 1 + 1) (x.2.1.flatMap sf).toArray).setRow (w.heap.size + 1 + 1 + 1) (x.2.2.flatMap ff).toArray).setCell ⟨w.heap.size + 1, 0, none⟩ (vs x.1)).setCell ⟨w.heap.size + 1, 1, none⟩ (.slice (some ⟨w.heap.size + 1 + 1, 0, none⟩) x.2.1.length x.2.1.length)).setCell ⟨w.heap.size + 1, 2, none⟩ (.slice (some ⟨w.heap.size + 1 + 1 + 1, 0, none⟩) x.2.2.length x.2.2.length) ).heap.size = w.heap.size + 1 + 1 + 1 + 1 := by simp [World.setCell, hWs]
  refine ⟨(x.1, .slice (some ⟨w.heap.size + 1 + 1, 0, none⟩) x.2.1.length x.2.1.length, .slice (some ⟨w.heap.size + 1 + 1 + 1, 0, none⟩) x.2.2.length x.2.2.length), rfl, ⟨rfl, ?_, ?_⟩, ?_, ?_, ?_⟩
  · exact rowC_block sf_length (by rw [set3_oth _ _ _ _ _ _ (by omega)]; exact R1) (by rw [hz]; omega) (by simp only [maxLen]; omega)
  · exact rowC_block ff_length (by rw [set3_oth _ _ _ _ _ _ (by omega)]; exact R2) (by rw [hz]; omega) (by simp only [maxLen]; omega)
  · intro b hb; simp [blkOf] at hb; omega
  · intro b hb; simp [blkOf] at hb; omega
  · exact ((hB3.setCell (p := ⟨w.heap.size + 1, 0, none⟩) (by simp) _).setCell (p := ⟨w.heap.size + 1, 1, none⟩) (by simp) _).setCell (p := ⟨w.heap.size + 1, 2, none⟩) (by simp) _
end Go.Proofs.YtiogmegdkfnkkaaGreatDoor
