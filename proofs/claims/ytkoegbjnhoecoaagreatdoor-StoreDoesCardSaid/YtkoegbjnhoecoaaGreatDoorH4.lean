/- 'out = append(out, x)' to one's own row, at a step of a region that draws its order. · wire.Parse, the reference's Parse. · The plain law of the store: what a disk's sectors hold, what a commit writes, and what a crash leaves. · The walks of Disk.Write, Len, Pending, Limit, New, over what a disk's blocks are. · The walks of Disk.Write, Len, Pending, Limit, New. · The walks of Disk.do, Sync, Crash. · slices.Backward over the pending writes; the walk of Disk.Read. -/
import Derived.Test.YtkoegbjnhoecoaaGreatDoorRows
import Derived.Test.YtkoegbjnhoecoaaGreatDoorH1
import Derived.Test.YtkoegbjnhoecoaaGreatDoorH3
import Derived.Test.YtkoegbjnhoecoaaGreatDoorH2
import Derived.Deep.DrawnRows
import Derived.RangeFuncBox
import Derived.RangeFuncNested
import Derived.RangeFuncBound
import Derived.RangeFuncCalls
import Derived.RangeFuncLeaves
import Derived.Shelf.Abstract
import Derived.Shelf.RegionOpen
import Derived.OwnWalkIn
import Derived.TacticsInMore
import Derived.LoopNIn
import Derived.LoopIn
namespace Go.Proofs.YtkoegbjnhoecoaaGreatDoor
open Go.RowKit

theorem step_appN {P : Program} {w : World} {ops : Array Oper} {o : Oper} {a : Act} {K : Act → World → Prop} {Q : Exit → Act → World → Prop} {E : Prop} (hgd : o.guard = none) (s x : Operand) (t : TypeId)
    (ho : o.op = .call { callee := .builtin .append, args := #[s, x], argTypes := #[t, t] })
    (base : Nat) (e : TypeId) (i : TypeInfo) (z : Value) (size bytes : Nat) (ht : P.underlying t = some (.slice e)) (hi : P.info? e = some i) (hz : i.zero = some z)
    (hsize : i.size = size) (hby : i.bytes = bytes) (hzs : z.cells.size = size) (hsz : 0 < size)
    (v : Value) (n : Nat) (xs : List Value) (us : List Value) (hus : us.length = size) (hone : ∀ y ∈ us, y.oneCell' = true) (hs : a.eval s = v) (g : Nat) (hx : a.eval x = .slice (some ⟨g, 0, none⟩) 1 1)
    (hg : w.heap[g]? = some (.cells us.toArray e (0, 0)))
    (hown : w.ownsRow base e size v n xs) (hb : base ≤ w.heap.size)
    (h63 : n + 1 ≤ maxLen) (hbytes : (n + 1) * bytes ≤ 140737488355328)
    (h : ∀ v' w', w'.ownsRow base e size v' (n + 1) (xs ++ us) → w.grownBy w' v.ownBlock → K (a.put o.dst v') w') :
    if Region.wanted o (yielded ops a.tmps) = true then Oper.wp P o a w K Q else E := by
  have hw : Region.wanted o (yielded ops a.tmps) = true := by simp [Region.wanted, hgd]
  rw [if_pos hw]
  have hnews : ∀ j y, us[j]? = some y → w.cell? ((⟨g, 0, none⟩ : Addr).add j) = some y := by
    intro j y hj
    rw [Addr.add_lit]
    simp only [Nat.zero_add]
    rw [cell_of_row _ g j _ e (0, 0) hg]
    simpa using hj
  obtain ⟨v', w', hr, h2, h3, _⟩ := run_append_own (P := P) w base t o.type e i z size bytes ht hi hz hsize hby hzs hsz v n xs hown ⟨g, 0, none⟩ 1 1 us (by omega) hnews hone h63 hbytes hb
  have key := h v' w' h2 h3
  unfold Oper.wp execOp
  simp only [ho, resolve, invoke, builtin, Sem.run_bind, Sem.run_pure, Result.andThen_ok, List.map_toArray, List.map_cons, List.map_nil, hs, hx, hr]
  exact key
end Go.Proofs.YtkoegbjnhoecoaaGreatDoor
namespace Go.Proofs.YtkoegbjnhoecoaaGreatDoor
open Go.RowKit Tx

theorem fileInfo : (Tryz.prog.info? 29).map (fun i => (i.zero, i.size, i.bytes)) = some (some (.agg #[.string ⟨#[]⟩, .string ⟨#[]⟩]), 2, 32) := by kernel_rfl
/-- 'out = append(out, f)' at rows of files. -/
theorem app_file {w0 : World} {ops : Array Oper} {rest : List Oper} {o : Oper} {a : Act} {Q : Exit → Act → World → Prop} (hgd : o.guard = none) (s x : Operand)
    (ho : o.op = .call { callee := .builtin .append, args := #[s, x], argTypes := #[30, 30] })
    (base : Nat) (v : Value) (l : List Wr.F) (u : Wr.F) (hs : a.eval s = v) (g : Nat) (hge : g = w0.heap.size) (hx : a.eval x = .slice (some ⟨g, 0, none⟩) 1 1)
    (hown : OwnC 29 2 ff base w0 v l) (hb : base ≤ w0.heap.size) (hl : l.length < 1000000)
    (h : ∀ v' w', OwnC 29 2 ff base w' v' (l ++ [u]) → Below base w0 w' → w0.grownBy w' v.ownBlock → wpList Tryz.prog ops Q rest (a.put o.dst v') w') :
    wpList Tryz.prog ops Q (o :: rest) a (w0.alloc (.cells #[.string (bs u.1), .string (bs u.2)] 29)) := by
  obtain ⟨i0, hi0, hz0, hz1, hz2⟩ := info_parts fileInfo
  refine wpList_appN hgd s x 30 ho base 29 i0 _ 2 32 Tryz.underlying30 hi0 hz0 hz1 hz2 rfl (by decide) v l.length (l.flatMap ff) (ff u) rfl (by simp [Value.oneCell']) hs g hge hx hown hb (by simp only [maxLen]; omega) (by omega) ?_
  intro v' w' h1 h2 h3
  exact h v' w' (by simpa [OwnC] using h1) (grown_below hown hb h2) h2

theorem step_file {w : World} {ops : Array Oper} {o : Oper} {a : Act} {K : Act → World → Prop} {Q : Exit → Act → World → Prop} {E : Prop} (hgd : o.guard = none) (s x : Operand)
    (ho : o.op = .call { callee := .builtin .append, args := #[s, x], argTypes := #[30, 30] })
    (base : Nat) (v : Value) (l : List Wr.F) (u : Wr.F) (hs : a.eval s = v) (g : Nat) (hx : a.eval x = .slice (some ⟨g, 0, none⟩) 1 1)
    (hg : w.heap[g]? = some (.cells #[vs u.1, vs u.2] 29 (0, 0)))
    (hown : OwnC 29 2 ff base w v l) (hb : base ≤ w.heap.size) (hl : l.length < 1000000)
    (h : ∀ v' w', OwnC 29 2 ff base w' v' (l ++ [u]) → Below base w w' → w.grownBy w' v.ownBlock → K (a.put o.dst v') w') :
    if Region.wanted o (yielded ops a.tmps) = true then Oper.wp Tryz.prog o a w K Q else E := by
  obtain ⟨i0, hi0, hz0, hz1, hz2⟩ := info_parts fileInfo
  refine step_appN hgd s x 30 ho base 29 i0 _ 2 32 Tryz.underlying30 hi0 hz0 hz1 hz2 rfl (by decide) v l.length (l.flatMap ff) (ff u) rfl (by simp [Value.oneCell']) hs g hx hg hown hb (by simp only [maxLen]; omega) (by omega) ?_
  intro v' w' h1 h2
  exact h v' w' (by simpa [OwnC] using h1) (grown_below hown hb h2) h2

theorem pairs_get : ∀ (j : Nat) (l : List Bs) (h : 2 * j + 1 < l.length), (Wr.pairs l)[j]? = some (l[2 * j], l[2 * j + 1]) := by
  intro j
  induction j with
  | zero =>
    intro l h
    match l, h with
    | x :: y :: r, _ => rfl
  | succ j ih =>
    intro l h
    match l, h with
    | x :: y :: r, h =>
      have := ih r (by simp at h; omega)
      show (Wr.pairs r)[j]? = _
      rw [this]
      rfl
theorem pairs_len (l : List Bs) : (Wr.pairs l).length = l.length / 2 := by
  have : ∀ (n : Nat) (l : List Bs), l.length ≤ n → (Wr.pairs l).length = l.length / 2 := by
    intro n
    induction n with
    | zero => intro l h; obtain rfl : l = [] := List.eq_nil_of_length_eq_zero (by omega); rfl
    | succ n ih =>
      intro l h
      match l, h with
      | [], _ => rfl
      | [x], _ => simp [Wr.pairs]
      | x :: y :: r, h =>
        have := ih r (by simp at h; omega)
        show (Wr.pairs r).length + 1 = _
        rw [this]
        simp
        omega
  exact this _ l (Nat.le_refl _)
theorem pairs_step (l : List Bs) (j : Nat) (h : 2 * j + 1 < l.length) : (Wr.pairs l).take (j + 1) = (Wr.pairs l).take j ++ [(l[2 * j], l[2 * j + 1])] := by
  have h1 : j < (Wr.pairs l).length := by rw [pairs_len]; omega
  have h2 := pairs_get j l h
  rw [List.getElem?_eq_getElem h1] at h2
  rw [List.take_succ_eq_append_getElem h1, Option.some.inj h2]
theorem pairs_mem (l : List Bs) (f : Wr.F) (h : f ∈ Wr.pairs l) : f.1 ∈ l ∧ f.2 ∈ l := by
  obtain ⟨j, hj, rfl⟩ := List.mem_iff_getElem.1 h
  have hl := pairs_len l
  have h2 := pairs_get j l (by omega)
  rw [List.getElem?_eq_getElem hj] at h2
  rw [Option.some.inj h2]
  exact ⟨List.getElem_mem _, List.getElem_mem _⟩
theorem puts_len (l : List Bs) : 3 * l.length ≤ (Wr.puts l).length := by
  induction l with
  | nil => simp
  | cons x l ih =>
    have := Wr.put_len x
    show _ ≤ (Wr.puts (x :: l)).length
    rw [show Wr.puts (x :: l) = Wr.put x ++ Wr.puts l by simp [Wr.puts]]
    simp
    omega

def parL (s : Bs) : List Wr.F := match Wr.parse s with | .ok l => l | .error _ => []
def parE (s : Bs) : Nat := match Wr.parse s with | .ok _ => 0 | .error e => e
def ParsePost (s : Bs) (w : World) (e : Ending) (w' : World) : Prop :=
  Below w.heap.size w w' ∧ ∃ v, e = .returned (.tuple #[v, .int .i64 (parE s : Nat)]) ∧ RowC 2 ff w' w'.heap.size v (parL s)
theorem all_errne (t : Wr.Bs) : ∀ (n : Nat) (e : Nat), t.length ≤ n → Wr.all t = .error e → e ≠ 0 := by
  intro n
  induction n generalizing t with
  | zero =>
    intro e h ha
    obtain rfl : t = [] := List.eq_nil_of_length_eq_zero (by omega)
    rw [Wr.all_nil] at ha; cases ha
  | succ n ih =>
    intro e h ha
    by_cases ht : t = []
    · subst ht; rw [Wr.all_nil] at ha; cases ha
    · match hg : Wr.get1 t 999999 with
      | .error y =>
        rw [Wr.all_err t y ht hg] at ha
        injection ha with ha
        have := get1_err _ _ _ hg
        omega
      | .ok (x, r) =>
        rw [Wr.all_ok t x r hg] at ha
        have hs := Wr.get1_short hg
        match hr : Wr.all r with
        | .error y =>
          rw [hr] at ha
          injection ha with ha
          subst ha
          exact ih r y (by omega) hr
        | .ok m => rw [hr] at ha; cases ha
theorem row_none (w : World) (B : Nat) : RowC 2 ff w B (.slice none 0 0) [] := ⟨0, by simp, by decide, .inl ⟨rfl, none, rfl⟩⟩

set_option maxRecDepth 100000 in
set_option maxHeartbeats 4000000 in
theorem wParse_any (s : Bs) (w : World) (hs : s.length ≤ 1000000) (hg : Gl w) :
    Calls Tryz.prog 42 #[vs s] w (ParsePost s w) := by
  have HA := Lib.hid (all_any s w hs hg.et)
  clear hg
  go_enter Tryz.func42, Tryz.ntmps42
  go_wp2_with fail
  refine HA.out.mono ?_
  rintro e w1 ⟨hb, v, rfl, hrow⟩
  match hall : Wr.all s with
  | .error y =>
    have hy := all_errne s s.length y (Nat.le_refl _) hall
    have hye : allE s = y := by unfold allE; rw [hall]
    have hyl : allL s = [] := by unfold allL; rw [hall]
    have HP : Hid (parE s = y ∧ parL s = []) := Lib.hid (by unfold parE parL Wr.parse; rw [hall]; exact ⟨rfl, rfl⟩)
    have hy0 : ((y : Int) != 0) = true := by simp; omega
    rw [hye]
    obtain ⟨A, cap, rfl, _⟩ := hrow.shape
    clear hrow hye hyl hall hy
    go_wp2_with fail
    go_ret2
    exact ⟨hb, .slice none 0 0, by rw [HP.out.1]; rfl, by rw [HP.out.2]; exact row_none _ _⟩
  | .ok L =>
    obtain ⟨hL1, hL2⟩ := Wr.all_inv s.length s L (Nat.le_refl _) hall
    have hll := puts_len L
    rw [← hL1] at hll
    have hye : allE s = 0 := by unfold allE; rw [hall]
    have hyl : allL s = L := by unfold allL; rw [hall]
    rw [hye]
    rw [hyl] at hrow
    have HP : Hid (Wr.parse s = if L.length % 2 = 1 then .error 5 else if Wr.right (Wr.pairs L) = true then .ok (Wr.pairs L) else .error 5) := Lib.hid (by unfold Wr.parse; rw [hall])
    have HL2 := Lib.hid hL2
    obtain ⟨A, cap, rfl, q1, q2, q3⟩ := hrow.shape
    have HC := Lib.hid q3
    clear hrow hye hyl hall hL1 hL2 q3
    have hpl := pairs_len L
    by_cases hodd : L.length % 2 = 1
    · have HQ : Hid (parE s = 5 ∧ parL s = []) := Lib.hid (by unfold parE parL; rw [HP.out, if_pos hodd]; exact ⟨rfl, rfl⟩)
      have ho : (((L.length : Int).tmod 2) != 0) = true := by
        rw [Int.tmod_eq_emod_of_nonneg (by omega)]
        have : ((L.length : Int) % 2) = 1 := by omega
        rw [this]; rfl
      have ho2 : ((L.length : Int) % 2 != 0) = true := by
        have : ((L.length : Int) % 2) = 1 := by omega
        rw [this]; rfl
      clear hodd hpl
      go_wp2_with fail
      go_ret2
      exact ⟨hb, .slice none 0 0, by rw [HQ.out.1]; rfl, by rw [HQ.out.2]; exact row_none _ _⟩
    · have ho : (((L.length : Int).tmod 2) != 0) = false := by
        rw [Int.tmod_eq_emod_of_nonneg (by omega)]
        have : ((L.length : Int) % 2) = 0 := by omega
        rw [this]; rfl
      have ho2 : ((L.length : Int) % 2 != 0) = false := by
        have : ((L.length : Int) % 2) = 0 := by omega
        rw [this]; rfl
      have hev : Hid (L.length % 2 = 0) := Lib.hid (by omega)
      have hod := Lib.hid hodd
      clear hodd
      obtain ⟨wq, rfl⟩ : ∃ wq, wq = w1 := ⟨_, rfl⟩
      have hle1 := hb.size
      have HPL := Lib.hid hpl
      clear hpl
      go_wp2_with fail
      go_loopw [6, 7] (fun o i wr => ∃ j : Nat, 2 * j ≤ L.length ∧ i = .int .i64 (2 * j : Nat) ∧ OwnC 29 2 ff wq.heap.size wr o ((Wr.pairs L).take j) ∧ Below wq.heap.size wq wr) (fun _ i _ => L.length - (RowKit.intOf i).toNat)
      case atStart => exact ⟨0, by omega, rfl, OwnC.nil _ _ _ _ _, Below.refl _ _⟩
      case round =>
        obtain ⟨j, hj, rfl, hown, hbel⟩ := hrel
        have hle := hbel.size
        have hol : ((Wr.pairs L).take j).length ≤ j := by simp; omega
        by_cases hlt : 2 * j < L.length
        · have h21 : 2 * j + 1 < L.length := by have := hev.out; omega
          obtain ⟨b, off, rfl, hbl, hc⟩ := HC.out (by rintro rfl; simp at hlt)
          have c0 := (hbel.cell (p := ⟨b, off + 2 * j, none⟩) hbl).trans (hc (2 * j) hlt)
          have c1 := (hbel.cell (p := ⟨b, off + (2 * j + 1), none⟩) hbl).trans (hc (2 * j + 1) h21)
          have HS := Lib.hid (pairs_step L j h21)
          generalize L[2 * j] = x at *
          generalize L[2 * j + 1] = y at *
          obtain ⟨k, hk⟩ : ∃ k, k = 2 * j := ⟨_, rfl⟩
          rw [← hk] at c0 c1 hlt h21 hj ⊢
          have HK := Lib.hid hk
          have hkj : k ≤ 1000000 := by omega
          have hjk : j < 1000000 := by omega
          have HO := Lib.hid hown
          clear hk hc hown
          have i0 : (0 : Int) ≤ (k : Int) := by omega
          have i1 : (k : Int) < (L.length : Int) := by omega
          have i2 : (k : Int) + 1 < (L.length : Int) := by omega
          have i3 : (0 : Int) ≤ (k : Int) + 1 := by omega
          have hw : IntKind.i64.wrap ((k : Int) + 1) = (k : Int) + 1 := IntWalk.i64_in _ (by omega)
          have ht : ((k : Int) + 1).toNat = k + 1 := by omega
          go_upto_region 10 with fail
          have hbase := hle
          go_region_held3 (fun wx => wx.cell? ⟨b, off + k, none⟩ = some (.string (bs x)) ∧ wx.cell? ⟨b, off + (k + 1), none⟩ = some (.string (bs y))) (first | go_keep | exact ⟨(h9.cell (p := ⟨b, off + k, none⟩) hbl).trans (Lib.cell?_alloc_marked _ c0), (h9.cell (p := ⟨b, off + (k + 1), none⟩) hbl).trans (Lib.cell?_alloc_marked _ c1)⟩) ((refine step_file (by rfl) (.tmp 26) (.tmp 37) (by rfl) wq.heap.size _ ((Wr.pairs L).take j) (x, y) (by rfl) wr.heap.size (by rfl) (heap_alloc_new _ _) (HO.out.below ((Below.refl _ _).alloc (Nat.le_refl _) _).drew) (by simp; omega) (by omega) ?_; intro v' w4 h8 h9 h10))
          go_wp2_with fail
          go_roundw
          case rel => exact ⟨j + 1, by have := HK.out; omega, by have := HK.out; congr 1; omega, by rw [HS.out]; exact h8, (hbel.alloc hle _).drew.trans h9⟩
          case measure => simp [RowKit.intOf]; omega
        · have hjl : (Wr.pairs L).length ≤ j := by have := hev.out; have := HPL.out; omega
          have HT : Hid ((Wr.pairs L).take j = Wr.pairs L) := Lib.hid (List.take_of_length_le hjl)
          rw [HT.out] at hown
          obtain ⟨k, hk⟩ : ∃ k, k = 2 * j := ⟨_, rfl⟩
          have hnl : ¬ k < L.length := by omega
          have hnli : (L.length : Int) ≤ (k : Int) := by omega
          rw [← hk]
          clear hk hlt hjl
          have HR := Lib.hid (fRight_any _ (Wr.pairs L) wr (hown.rowC ff_length) (fun f hf => by
            obtain ⟨h1, h2⟩ := pairs_mem L f hf
            have h3 := HL2.out _ h1
            have h4 := HL2.out _ h2
            exact ⟨by simp only [maxLen]; omega, by simp only [maxLen]; omega⟩))
          have HO := Lib.hid hown
          clear hown
          by_cases hrt : Wr.right (Wr.pairs L) = true
          · have HQ : Hid (parE s = 0 ∧ parL s = Wr.pairs L) := Lib.hid (by unfold parE parL; rw [HP.out, if_neg hod.out, if_pos hrt]; exact ⟨rfl, rfl⟩)
            rw [hrt] at HR
            clear hrt
            go_wp2_with fail
            refine HR.out.mono ?_
            rintro e w3 ⟨rfl, hb3⟩
            go_wp2_with fail
            go_ret2
            exact ⟨below_via hb (below_via hbel hb3), _, by rw [HQ.out.1]; rfl, by rw [HQ.out.2]; exact (HO.out.below hb3).rowC ff_length⟩
          · have HQ : Hid (parE s = 5 ∧ parL s = []) := Lib.hid (by unfold parE parL; rw [HP.out, if_neg hod.out, if_neg hrt]; exact ⟨rfl, rfl⟩)
            have hrt : Wr.right (Wr.pairs L) = false := by simpa using hrt
            rw [hrt] at HR
            clear hrt
            go_wp2_with fail
            refine HR.out.mono ?_
            rintro e w3 ⟨rfl, hb3⟩
            go_wp2_with fail
            go_ret2
            exact ⟨below_via hb (below_via hbel hb3), .slice none 0 0, by rw [HQ.out.1]; rfl, by rw [HQ.out.2]; exact row_none _ _⟩
end Go.Proofs.YtkoegbjnhoecoaaGreatDoor
namespace Go.Proofs.YtkoegbjnhoecoaaGreatDoor
open Tx

namespace Sq
/-- A head: its generation, and how many bytes its half has. -/
abbrev Head := Nat × Nat
def half (n : Nat) : Nat := (n - 2) / 2
def hd (h : Head) : Bs := Wr.puts [Lib.decDigits h.1, Lib.decDigits h.2]
def sect (f : Int → Option Dk.Wr) (i : Int) : ByteArray := match f i with | some w => w.2 | none => ⟨#[]⟩
def HeadIs (t : ByteArray) (h : Head) : Prop := (t = ⟨#[]⟩ ∧ h = (0, 0)) ∨ t = bs (hd h)
def now (h0 h1 : Head) : Nat := if h0.1 < h1.1 then 1 else 0
def cur (h0 h1 : Head) : Head := if h0.1 < h1.1 then h1 else h0
def from_ (n a : Nat) : Nat := 2 + a * half n
/-- What a half's sector i of a text has. -/
def chunk (T : Bs) (i : Nat) : Bs := (T.drop (64 * i)).take 64
def cnt (T : Bs) : Nat := (T.length + 63) / 64
structure Good (n : Nat) (f : Int → Option Dk.Wr) (h0 h1 : Head) (T : Bs) : Prop where
  hd0 : HeadIs (sect f 0) h0
  hd1 : HeadIs (sect f 1) h1
  size : T.length = (cur h0 h1).2
  room : T.length ≤ 64 * half n
  data : ∀ i, i < cnt T → sect f ((from_ n (now h0 h1) + i : Nat) : Int) = bs (chunk T i)
/-- A text's first k writes into a half. -/
def lay (n a : Nat) (T : Bs) (k : Nat) : List Dk.Wr := (List.range k).map fun i => (((from_ n a + i : Nat) : Int), bs (chunk T i))

theorem puts_other (f : Int → Option Dk.Wr) (l : List Dk.Wr) (i : Int) (h : ∀ u ∈ l, u.1 ≠ i) : Dk.puts f l i = f i := by
  induction l generalizing f with
  | nil => rfl
  | cons u l ih =>
    show Dk.puts (Dk.put f u) l i = _
    rw [ih _ (fun v hv => h v (by simp [hv]))]
    show (if i = u.1 then some u else f i) = _
    rw [if_neg (fun e => h u (by simp) e.symm)]
theorem puts_snoc (f : Int → Option Dk.Wr) (l : List Dk.Wr) (u : Dk.Wr) : Dk.puts f (l ++ [u]) = Dk.put (Dk.puts f l) u := by simp [Dk.puts, List.foldl_append]
theorem lay_succ (n a : Nat) (T : Bs) (k : Nat) : lay n a T (k + 1) = lay n a T k ++ [(((from_ n a + k : Nat) : Int), bs (chunk T k))] := by
  simp [lay, List.range_succ]
theorem lay_len (n a : Nat) (T : Bs) (k : Nat) : (lay n a T k).length = k := by simp [lay]
theorem lay_mem {n a : Nat} {T : Bs} {k : Nat} {u : Dk.Wr} (h : u ∈ lay n a T k) : ∃ i, i < k ∧ u = (((from_ n a + i : Nat) : Int), bs (chunk T i)) := by
  simp only [lay, List.mem_map, List.mem_range] at h
  obtain ⟨i, hi, rfl⟩ := h
  exact ⟨i, hi, rfl⟩
theorem lay_at (f : Int → Option Dk.Wr) (n a : Nat) (T : Bs) (k i : Nat) (h : i < k) : sect (Dk.puts f (lay n a T k)) ((from_ n a + i : Nat) : Int) = bs (chunk T i) := by
  induction k with
  | zero => omega
  | succ k ih =>
    rw [lay_succ, puts_snoc]
    unfold sect Dk.put
    by_cases e : i = k
    · subst e; simp
    · have h2 : ¬ (((from_ n a + i : Nat) : Int) = ((from_ n a + k : Nat) : Int)) := by omega
      simp only [h2, if_false]
      exact ih (by omega)
theorem kept_sub : ∀ (l : List Dk.Wr) (ks : List Bool) (u : Dk.Wr), u ∈ Dk.kept l ks → u ∈ l
  | [], _, u, h => by simp [Dk.kept] at h
  | w :: l, [], u, h => by simp [Dk.kept] at h
  | w :: l, k :: ks, u, h => by
    unfold Dk.kept at h
    split at h
    · rcases List.mem_cons.1 h with rfl | h
      · simp
      · exact List.mem_cons_of_mem _ (kept_sub l ks u h)
    · exact List.mem_cons_of_mem _ (kept_sub l ks u h)
theorem kept_nil (ks : List Bool) : Dk.kept [] ks = [] := by cases ks <;> rfl
theorem kept_one (u : Dk.Wr) (ks : List Bool) : Dk.kept [u] ks = [u] ∨ Dk.kept [u] ks = [] := by
  cases ks with
  | nil => exact .inr rfl
  | cons k ks =>
    unfold Dk.kept
    rw [kept_nil]
    cases k
    · exact .inr rfl
    · exact .inl rfl
theorem cnt_le {n : Nat} {T : Bs} (h : T.length ≤ 64 * half n) : cnt T ≤ half n := by unfold cnt; omega
theorem now_two (h0 h1 : Head) : now h0 h1 = 0 ∨ now h0 h1 = 1 := by unfold now; split <;> simp
theorem now_le (h0 h1 : Head) : now h0 h1 ≤ 1 := by have := now_two h0 h1; omega
theorem cur_now (h0 h1 : Head) : cur h0 h1 = if now h0 h1 = 1 then h1 else h0 := by unfold cur now; split <;> simp
/-- Sectors of one half are none of the other's, and no heads. -/
theorem half_apart {n a b i k : Nat} (ha : a ≤ 1) (hb : b ≤ 1) (hab : a ≠ b) (hi : i < half n) (hk : k < half n) : from_ n a + i ≠ from_ n b + k := by
  unfold from_
  rcases (by omega : a = 0 ∨ a = 1) with rfl | rfl <;> rcases (by omega : b = 0 ∨ b = 1) with rfl | rfl <;> omega
/-- What does not touch the heads and the half that counts leaves all as it was. -/
theorem Good.other {n : Nat} {f g : Int → Option Dk.Wr} {h0 h1 : Head} {T : Bs} (h : Good n f h0 h1 T) (e0 : g 0 = f 0) (e1 : g 1 = f 1)
    (e2 : ∀ i, i < half n → g ((from_ n (now h0 h1) + i : Nat) : Int) = f ((from_ n (now h0 h1) + i : Nat) : Int)) : Good n g h0 h1 T := by
  refine ⟨?_, ?_, h.size, h.room, fun i hi => ?_⟩
  · unfold sect; rw [e0]; exact h.hd0
  · unfold sect; rw [e1]; exact h.hd1
  · have := cnt_le h.room
    unfold sect
    rw [e2 i (by omega)]
    exact h.data i hi
theorem Good.puts {n : Nat} {f : Int → Option Dk.Wr} {h0 h1 : Head} {T U : Bs} {k : Nat} {l : List Dk.Wr} (h : Good n f h0 h1 T) (hk : k ≤ half n) (hl : ∀ u ∈ l, u ∈ lay n (1 - now h0 h1) U k) : Good n (Dk.puts f l) h0 h1 T := by
  have key : ∀ i : Nat, (∀ j, j < half n → i ≠ from_ n (1 - now h0 h1) + j) → Dk.puts f l (i : Int) = f (i : Int) := fun i hi => puts_other _ _ _ fun u hu => by
    obtain ⟨j, hj, rfl⟩ := lay_mem (hl u hu)
    simp only
    have := hi j (by omega)
    omega
  have hn := now_two h0 h1
  refine h.other (key 0 fun j _ => by unfold from_; omega) (key 1 fun j _ => by unfold from_; omega) fun i hi => key _ fun j hj => ?_
  exact half_apart (now_le _ _) (by omega) (by omega) hi hj
/-- A commit's new head. -/
def next (h0 h1 : Head) (T : Bs) : Head := (max h0.1 h1.1 + 1, T.length)
def n0 (h0 h1 : Head) (T : Bs) : Head := if now h0 h1 = 1 then next h0 h1 T else h0
def n1 (h0 h1 : Head) (T : Bs) : Head := if now h0 h1 = 1 then h1 else next h0 h1 T
theorem now_next (h0 h1 : Head) (T : Bs) : now (n0 h0 h1 T) (n1 h0 h1 T) = 1 - now h0 h1 ∧ cur (n0 h0 h1 T) (n1 h0 h1 T) = next h0 h1 T := by
  rcases now_two h0 h1 with e | e
  · unfold n0 n1
    rw [e]
    simp only [Nat.zero_ne_one, if_false]
    unfold now cur next
    have : h0.1 < max h0.1 h1.1 + 1 := by omega
    simp [this]
  · unfold n0 n1
    rw [e]
    simp only [if_true]
    unfold now cur next
    have : ¬ max h0.1 h1.1 + 1 < h1.1 := by omega
    simp [this]
/-- The head's write. -/
def hw (h0 h1 : Head) (T : Bs) : Dk.Wr := (((1 - now h0 h1 : Nat) : Int), bs (hd (next h0 h1 T)))
theorem Good.head {n : Nat} {f : Int → Option Dk.Wr} {h0 h1 : Head} {T U : Bs} (h : Good n f h0 h1 T) (hr : U.length ≤ 64 * half n) (hd : ∀ i, i < cnt U → sect f ((from_ n (1 - now h0 h1) + i : Nat) : Int) = bs (chunk U i)) : Good n (Dk.put f (hw h0 h1 U)) (n0 h0 h1 U) (n1 h0 h1 U) U := by
  obtain ⟨e1, e2⟩ := now_next h0 h1 U
  have hs : ∀ i : Int, i ≠ ((1 - now h0 h1 : Nat) : Int) → sect (Dk.put f (hw h0 h1 U)) i = sect f i := fun i hi => by
    unfold sect Dk.put hw
    simp only [hi, if_false]
  have hs1 : sect (Dk.put f (hw h0 h1 U)) ((1 - now h0 h1 : Nat) : Int) = bs (Sq.hd (next h0 h1 U)) := by
    unfold sect Dk.put hw
    simp
  refine ⟨?_, ?_, ?_, hr, ?_⟩
  · rcases now_two h0 h1 with e | e
    · rw [hs 0 (by rw [e]; decide)]
      have : n0 h0 h1 U = h0 := by unfold n0; rw [e]; rfl
      rw [this]
      exact h.hd0
    · rw [e] at hs1
      have : n0 h0 h1 U = next h0 h1 U := by unfold n0; rw [e]; rfl
      rw [this]
      exact .inr hs1
  · rcases now_two h0 h1 with e | e
    · rw [e] at hs1
      have : n1 h0 h1 U = next h0 h1 U := by unfold n1; rw [e]; rfl
      rw [this]
      exact .inr hs1
    · rw [hs 1 (by rw [e]; decide)]
      have : n1 h0 h1 U = h1 := by unfold n1; rw [e]; rfl
      rw [this]
      exact h.hd1
  · rw [e2]; rfl
  · intro i hi
    rw [e1, hs _ (by unfold from_; have := now_two h0 h1; omega)]
    exact hd i hi
/-- What a crash may leave: what was, or what was to be. -/
def Mid (n : Nat) (f : Int → Option Dk.Wr) (p : List Dk.Wr) (h0 h1 : Head) (T U : Bs) : Prop :=
  ∀ ks, Good n (Dk.puts f (Dk.kept p ks)) h0 h1 T ∨ Good n (Dk.puts f (Dk.kept p ks)) (n0 h0 h1 U) (n1 h0 h1 U) U
/-- Stopped while the half is written. -/
theorem Good.mid_lay {n : Nat} {f : Int → Option Dk.Wr} {h0 h1 : Head} {T U : Bs} {k : Nat} (h : Good n f h0 h1 T) (hk : k ≤ half n) : Mid n f (lay n (1 - now h0 h1) U k) h0 h1 T U :=
  fun ks => .inl (h.puts hk fun u hu => kept_sub _ ks u hu)
theorem Good.laid {n : Nat} {f : Int → Option Dk.Wr} {h0 h1 : Head} {T U : Bs} (h : Good n f h0 h1 T) (hr : U.length ≤ 64 * half n) : Good n (Dk.puts f (lay n (1 - now h0 h1) U (cnt U))) h0 h1 T ∧
    ∀ i, i < cnt U → sect (Dk.puts f (lay n (1 - now h0 h1) U (cnt U))) ((from_ n (1 - now h0 h1) + i : Nat) : Int) = bs (chunk U i) :=
  ⟨h.puts (cnt_le hr) fun _ hu => hu, fun _i hi => lay_at _ _ _ _ _ _ hi⟩
/-- Stopped at the head. -/
theorem Good.mid_none {n : Nat} {f : Int → Option Dk.Wr} {h0 h1 : Head} {T U : Bs} (h : Good n f h0 h1 T) : Mid n f [] h0 h1 T U :=
  fun ks => .inl (by rw [kept_nil]; exact h)
theorem Good.mid_head {n : Nat} {f : Int → Option Dk.Wr} {h0 h1 : Head} {T U : Bs} (h : Good n f h0 h1 T) (hr : U.length ≤ 64 * half n) (hd : ∀ i, i < cnt U → sect f ((from_ n (1 - now h0 h1) + i : Nat) : Int) = bs (chunk U i)) : Mid n f [hw h0 h1 U] h0 h1 T U := fun ks => by
  rcases kept_one (hw h0 h1 U) ks with e | e
  · rw [e]; exact .inr (h.head hr hd)
  · rw [e]; exact .inl h
/-- A new disk. -/
theorem Good.fresh (n : Nat) : Good n (fun _ => none) (0, 0) (0, 0) [] :=
  ⟨.inl ⟨rfl, rfl⟩, .inl ⟨rfl, rfl⟩, rfl, by simp, fun i hi => by simp [cnt] at hi⟩
/-- The text up to sector i. -/
theorem take_chunk (T : Bs) (i : Nat) : T.take (64 * (i + 1)) = T.take (64 * i) ++ chunk T i := by
  unfold chunk
  rw [Nat.mul_succ, List.take_add]
theorem chunk_len (T : Bs) (i : Nat) : (chunk T i).length ≤ 64 := by simp [chunk]; omega
theorem drop_chunk (T : Bs) (i : Nat) : (T.drop (64 * i)).drop 64 = T.drop (64 * (i + 1)) := by rw [List.drop_drop, Nat.mul_succ]
/-- What a head's text is read as. -/
theorem hd_all (h : Head) (h1 : h.1 ≤ 1000000000) (h2 : h.2 ≤ 1000000000) : Wr.all (hd h) = .ok [Lib.decDigits h.1, Lib.decDigits h.2] :=
  Wr.all_puts _ fun x hx => by
    simp only [List.mem_cons, List.not_mem_nil, or_false] at hx
    rcases hx with rfl | rfl
    · have := dig_len h.1 h1; omega
    · have := dig_len h.2 h2; omega
theorem hd_len (h : Head) (h1 : h.1 ≤ 1000000000) (h2 : h.2 ≤ 1000000000) : (hd h).length ≤ 64 := by
  have a := dig_len h.1 h1
  have b := dig_len h.2 h2
  have e : hd h = Wr.put (Lib.decDigits h.1) ++ Wr.put (Lib.decDigits h.2) := by simp [hd, Wr.puts]
  rw [e]
  simp only [Wr.put, List.length_append, List.length_cons, List.length_nil]
  have c := dig_len (Lib.decDigits h.1).length (by omega)
  have d := dig_len (Lib.decDigits h.2).length (by omega)
  omega
end Sq
end Go.Proofs.YtkoegbjnhoecoaaGreatDoor
namespace Go.Proofs.YtkoegbjnhoecoaaGreatDoor
open Go.Maps Go.RowKit

/-- Only the blocks F, of what was, may have turned. -/
structure Moved (w w' : World) (F : List Nat) : Prop where
  os : w'.os = w.os
  tape : w'.tape = w.tape
  output : w'.output = w.output
  size : w.heap.size ≤ w'.heap.size
  block : ∀ k, k < w.heap.size → k ∉ F → w'.heap[k]? = w.heap[k]?

theorem Moved.refl (w : World) (F : List Nat) : Moved w w F := ⟨rfl, rfl, rfl, Nat.le_refl _, fun _ _ _ => rfl⟩
theorem Moved.trans {w w' w'' : World} {F F' : List Nat} (h : Moved w w' F) (h' : Moved w' w'' F') (hF : ∀ k ∈ F', k ∈ F ∨ w.heap.size ≤ k) : Moved w w'' F :=
  ⟨h'.os.trans h.os, h'.tape.trans h.tape, h'.output.trans h.output, Nat.le_trans h.size h'.size, fun k hk hn =>
    (h'.block k (Nat.lt_of_lt_of_le hk h.size) (fun hm => by rcases hF k hm with h1 | h1; exact hn h1; omega)).trans (h.block k hk hn)⟩
theorem Moved.of_grown {w w' : World} {r : Option Nat} {F : List Nat} (h : w.grownBy w' r) (hF : ∀ k, r = some k → k ∈ F) : Moved w w' F :=
  ⟨h.os, h.tape, h.output, h.size, fun k hk hn => h.block k hk (fun e => hn (hF k e.symm))⟩
theorem Moved.alloc {w w' : World} {F : List Nat} (h : Moved w w' F) (o : Obj) : Moved w (w'.alloc o) F :=
  ⟨h.os, h.tape, h.output, Nat.le_trans h.size (by simp), fun k hk hn => (Below.heap_alloc _ _ _ (Nat.lt_of_lt_of_le hk h.size)).trans (h.block k hk hn)⟩
theorem Moved.setCell {w w' : World} {F : List Nat} (h : Moved w w' F) (b j : Nat) (v : Value) (hb : b ∈ F ∨ w.heap.size ≤ b) : Moved w (w'.setCell ⟨b, j, none⟩ v) F :=
  ⟨h.os, h.tape, h.output, by rw [World.size_setCell]; exact h.size, fun k hk hn => (Below.heap_setCell _ _ _ _ (by rintro rfl; rcases hb with h1 | h1; exact hn h1; omega)).trans (h.block k hk hn)⟩
theorem Moved.drewN {w w' : World} {F : List Nat} (h : Moved w w' F) (n : Nat) : Moved w (w'.drewN n) F := ⟨h.os, h.tape, h.output, h.size, h.block⟩
theorem Moved.below {w w' : World} {F : List Nat} {B : Nat} (h : Moved w w' F) (hB : B ≤ w.heap.size) (hF : ∀ k ∈ F, B ≤ k) : Below B w w' :=
  ⟨h.os, h.tape, h.output, h.size, fun k hk => h.block k (Nat.lt_of_lt_of_le hk hB) (fun hm => by have := hF k hm; omega)⟩
theorem Moved.more {w w' : World} {F F' : List Nat} (h : Moved w w' F) (hF : ∀ k ∈ F, k ∈ F') : Moved w w' F' :=
  ⟨h.os, h.tape, h.output, h.size, fun k hk hn => h.block k hk (fun hm => hn (hF k hm))⟩
theorem Moved.of_below {w w' : World} (h : Below w.heap.size w w') (F : List Nat) : Moved w w' F := ⟨h.os, h.tape, h.output, h.size, fun k hk _ => h.block k hk⟩

namespace Dk
theorem Of.lt {w : World} {bd : Nat} {s : St} {F : List Nat} (h : Of w bd s F) : ∀ k ∈ F, k < w.heap.size := by
  obtain ⟨l, bm, pv, h1, _, _, _, _, _, hm, ho, rfl⟩ := h
  intro k hk
  simp only [List.mem_cons, Option.mem_toList] at hk
  rcases hk with rfl | rfl | hk
  · exact lt_of_block h1
  · exact hm.lt
  · exact (ho.lt k hk).2
theorem Of.mem {w : World} {bd : Nat} {s : St} {F : List Nat} (h : Of w bd s F) : bd ∈ F := by
  obtain ⟨l, bm, pv, h1, _, _, _, _, _, hm, ho, rfl⟩ := h
  simp
theorem Of.keep {w w' : World} {bd : Nat} {s : St} {F : List Nat} (h : Of w bd s F) (hk : ∀ k ∈ F, w'.heap[k]? = w.heap[k]?) : Of w' bd s F := by
  obtain ⟨l, bm, pv, h1, h2, h3, h4, h5, h6, hm, ho, rfl⟩ := h
  exact ⟨l, bm, pv, (hk _ (by simp)).trans h1, h2, h3, h4, h5, h6, hm.keep (hk _ (by simp)), own_heap ho (fun k hk' => hk k (by simp [hk'])), rfl⟩
theorem Of.moved {w w' : World} {bd : Nat} {s : St} {F G : List Nat} (h : Of w bd s F) (hm : Moved w w' G) (hd : ∀ k ∈ F, k ∉ G) : Of w' bd s F :=
  h.keep fun k hk => hm.block k (h.lt k hk) (hd k hk)
theorem Of.alloc {w : World} {bd : Nat} {s : St} {F : List Nat} (h : Of w bd s F) (o : Obj) : Of (w.alloc o) bd s F :=
  h.keep fun k hk => Below.heap_alloc _ _ _ (h.lt k hk)
theorem Of.below {w w' : World} {bd : Nat} {s : St} {F : List Nat} (h : Of w bd s F) (hb : Below w.heap.size w w') : Of w' bd s F :=
  h.keep fun k hk => hb.block k (h.lt k hk)

/-- What a call does to a disk: it is in the state s' then, and no block has turned but its own. -/
def Does (w : World) (bd : Nat) (F : List Nat) (s' : St) (w' : World) : Prop := ∃ F', Of w' bd s' F' ∧ Moved w w' F ∧ ∀ k ∈ F', k ∈ F ∨ w.heap.size ≤ k
theorem Of.does {w : World} {bd : Nat} {s : St} {F : List Nat} (h : Of w bd s F) : Does w bd F s w := ⟨F, h, Moved.refl _ _, fun _ hk => .inl hk⟩
end Dk

/-- 'out = append(out, p)', out nil or the call's own, p a pair of cells that was just laid in a block of its own. -/
theorem wpList_app2 {P : Program} {w0 : World} {ops : Array Oper} {rest : List Oper} {o : Oper} {a : Act} {Q : Exit → Act → World → Prop} (hgd : o.guard = none) (s x : Operand) (t : TypeId)
    (ho : o.op = .call { callee := .builtin .append, args := #[s, x], argTypes := #[t, t] })
    (base : Nat) (e : TypeId) (i : TypeInfo) (z : Value) (bytes : Nat) (ht : P.underlying t = some (.slice e)) (hi : P.info? e = some i) (hz : i.zero = some z)
    (hsize : i.size = 2) (hby : i.bytes = bytes) (hzs : z.cells.size = 2)
    (v : Value) (n : Nat) (xs : List Value) (u u' : Value) (hu : u.oneCell' = true) (hu' : u'.oneCell' = true) (hs : a.eval s = v) (g : Nat) (hge : g = w0.heap.size) (hx : a.eval x = .slice (some ⟨g, 0, none⟩) 1 1)
    (hown : w0.ownsRow base e 2 v n xs) (hb : base ≤ w0.heap.size)
    (h63 : n + 1 ≤ maxLen) (hbytes : (n + 1) * bytes ≤ 140737488355328)
    (h : ∀ v' w', w'.ownsRow base e 2 v' (n + 1) (xs ++ [u, u']) → w0.grownBy w' v.ownBlock → (∀ k, v'.ownBlock = some k → v.ownBlock = some k ∨ w0.heap.size ≤ k) → wpList P ops Q rest (a.put o.dst v') w') :
    wpList P ops Q (o :: rest) a (w0.alloc (.cells #[u, u'] e)) := by
  subst hge
  have hnews : ∀ j y, [u, u'][j]? = some y → (w0.alloc (.cells #[u, u'] e)).cell? ((⟨w0.heap.size, 0, none⟩ : Addr).add j) = some y := by
    intro j y hj
    rw [Addr.add_lit]
    simp only [Nat.zero_add]
    rw [cell_of_row _ w0.heap.size j _ e (0, 0) (heap_alloc_new w0 _)]
    simpa using hj
  have hone : ∀ y ∈ [u, u'], y.oneCell' = true := by
    intro y hy
    simp at hy
    rcases hy with rfl | rfl
    · exact hu
    · exact hu'
  obtain ⟨v', w', hr, h2, h3, _⟩ := run_append_own (P := P) (w0.alloc (.cells #[u, u'] e)) base t o.type e i z 2 bytes ht hi hz hsize hby hzs (by decide) v n xs (hown.alloc _) ⟨w0.heap.size, 0, none⟩ 1 1 [u, u'] rfl hnews hone h63 hbytes (by simp; omega)
  have h4 := append_own_blk (P := P) (w0.alloc (.cells #[u, u'] e)) base t o.type e i z 2 bytes ht hi hz hsize hby hzs (by decide) v n xs (hown.alloc _) ⟨w0.heap.size, 0, none⟩ 1 1 [u, u'] rfl hnews hone h63 hbytes v' w' hr
  have hg : w0.grownBy w' v.ownBlock := ⟨h3.os, h3.tape, h3.output, Nat.le_trans (by simp) h3.size, fun k hk hne => (h3.block k (by simp; omega) hne).trans (Below.heap_alloc _ _ _ hk)⟩
  refine wpList_plain hgd fun _ hK => ?_
  unfold Oper.wp execOp
  simp only [ho, resolve, invoke, builtin, Sem.run_bind, Sem.run_pure, Result.andThen_ok, List.map_toArray, List.map_cons, List.map_nil, hs, hx, hr]
  exact hK _ _ (h v' w' h2 hg (fun k hk => by rcases h4 k hk with h5 | h5; exact .inl h5; exact .inr (by simp at h5; omega)))
end Go.Proofs.YtkoegbjnhoecoaaGreatDoor
namespace Go.Proofs.YtkoegbjnhoecoaaGreatDoor
open Go.Maps Go.RowKit

theorem dbg_stop {p : Prop} (h : Hid p) : p := h
theorem dbg_un {p : Prop} (h : p) : Hid p := h
theorem writeInfo : (Tryz.prog.info? 80).map (fun i => (i.zero, i.size, i.bytes)) = some (some (.agg #[.int .i64 0, .string ⟨#[]⟩]), 2, 24) := by kernel_rfl

set_option maxRecDepth 100000 in
set_option maxHeartbeats 1000000 in
theorem dWrite_any (bd : Nat) (s : Dk.St) (F : List Nat) (i : Int) (t : ByteArray) (w : World) (hd : Dk.Of w bd s F) (hp : s.pend.length < 1000000) (ht : t.size < 1000000) (hi : (Lit.int .i64 i).wf = true) :
    Calls Tryz.prog 30 #[.pointer (some ⟨bd, 0, none⟩), .int .i64 i, .string t] w fun e w' => e = .returned (.int .i64 (Dk.write s i t).1) ∧ Dk.Does w bd F (Dk.write s i t).2 w' := by
  have hd0 := hd
  obtain ⟨l, bm, pv, h1, h2, ⟨h3, hpw⟩, h4, h5, h6, hm, ho, rfl⟩ := hd
  by_cases hh : Dk.has s i = true
  · by_cases hs : 64 < t.size
    · refine Calls.mono (R := fun e w' => e = .returned (.int .i64 3) ∧ w = w') ?_ (fun _ _ ⟨h1, h2⟩ => ⟨by simp [h1, Dk.write, hh, hs], by simpa [← h2, Dk.write, hh, hs] using hd0.does⟩)
      have hb1 : (64 : Int) < (t.size : Int) := by omega
      clear hd0 hm ho h2 hs
      go_enter Tryz.func30, Tryz.ntmps30
      go_wp2_with (go_at_call 47; refine (has_at true _ _ _ _ _ _ _ _ h1 hh).mono ?_; rintro e w' ⟨rfl, rfl⟩)
      go_ret
      exact ⟨rfl, rfl⟩
    · have hb1 : ¬ (64 : Int) < (t.size : Int) := by omega
      by_cases hdd : Dk.dead s.lim = true
      · refine Calls.mono (R := fun e w' => e = .returned (.int .i64 8) ∧ w = w') ?_ (fun _ _ ⟨h1, h2⟩ => ⟨by simp [h1, Dk.write, hh, hs, hdd], by simpa [← h2, Dk.write, hh, hs, hdd] using hd0.does⟩)
        have hu := (Dk.dead_eq _ _ h2).trans hdd
        clear hd0 hm ho h2 hs
        go_enter Tryz.func30, Tryz.ntmps30
        go_wp2_with (first | (go_at_call 47; refine (has_at true _ _ _ _ _ _ _ _ h1 hh).mono ?_; rintro e w' ⟨rfl, rfl⟩) | (go_at_call 48; refine (use_dead _ _ _ _ _ _ _ h1 hu).mono ?_; rintro e w' ⟨rfl, rfl⟩))
        go_ret
        exact ⟨rfl, rfl⟩
      · have hdd' : Dk.dead s.lim = false := by simpa using hdd
        refine Calls.mono (R := fun e w' => e = .returned (.int .i64 0) ∧ Dk.Does w bd (bd :: bm :: pv.ownBlock.toList) { s with lim := Dk.used s.lim, pend := s.pend ++ [(i, t)] } w') ?_ (fun _ _ ⟨h1, h2⟩ => ⟨by simp [h1, Dk.write, hh, hs, hdd], by simpa [Dk.write, hh, hs, hdd] using h2⟩)
        have hu := (Dk.dead_eq _ _ h2).trans hdd'
        have hus := Lib.hid (Dk.used_eq _ _ h2 h3 hdd')
        have HP := Lib.hid (And.intro hpw hi)
        clear hd0 hs hdd hdd' h2 hpw hi
        obtain ⟨i0, hi0, hz0, hz1, hz2⟩ := info_parts writeInfo
        have c4 : (w.setCell ⟨bd, 1, none⟩ (.int .i64 (wrap64 (l - 1)))).cell? ⟨bd, 4, none⟩ = some pv := by rw [Dk.cell_of (Dk.cells_setCell h1 _)]; rfl
        have ho1 := ownsRow_setCell_other (a := ⟨bd, 1, none⟩) ho h5 (.int .i64 (wrap64 (l - 1)))
        go_enter Tryz.func30, Tryz.ntmps30
        go_wp2_with (first
          | (go_at_call 47; refine (has_at true _ _ _ _ _ _ _ _ h1 hh).mono ?_; rintro e w' ⟨rfl, rfl⟩)
          | (go_at_call 48; refine (use_live _ _ _ _ _ _ _ h1 hu).mono ?_; rintro e w' ⟨rfl, rfl⟩)
          | (at_builtin; refine wpList_app2 rfl (.tmp 26) (.tmp 30) 76 rfl 0 80 i0 _ 24 Tryz.underlying76 hi0 hz0 hz1 hz2 rfl pv s.pend.length (Dk.flat s.pend) (.int .i64 i) (.string t) rfl rfl rfl _ (by simp) rfl ho1 (by omega) (by simp only [maxLen]; omega) (by omega) ?_; intro pv' w3 ho3 hg3 hb3; obtain ⟨g', cap', rfl⟩ := ownsRow_succ ho3; have hw3 := (hg3.block bd (lt_of_block (Dk.cells_setCell h1 (.int .i64 (wrap64 (l - 1))) (j := 1))) (fun e => h5 e.symm)).trans (Dk.cells_setCell h1 (.int .i64 (wrap64 (l - 1)))); have hf3 : w3.frozen? ⟨bd, 4, none⟩ = false := Dk.free_of hw3; have hc3 : w3.cell? ⟨bd, 4, none⟩ = some pv := by rw [Dk.cell_of hw3]; rfl))
        go_ret
        have hlt := lt_of_block h1
        have hne : ∀ k, Value.ownBlock (.slice (some ⟨g', 0, none⟩) (s.pend.length + 1) cap') = some k → k ≠ bd ∧ k ≠ bm ∧ (k ∈ bd :: bm :: pv.ownBlock.toList ∨ w.heap.size ≤ k) := by
          intro k hk
          rcases hb3 k hk with h | h
          · exact ⟨fun e => h5 (by rw [h, e]), fun e => h6 (by rw [h, e]), .inl (by simp [h])⟩
          · rw [World.size_setCell] at h
            have := hm.lt
            exact ⟨by omega, by omega, .inr h⟩
        have hm1 : Moved w (w.setCell ⟨bd, 1, none⟩ (.int .i64 (wrap64 (l - 1)))) (bd :: bm :: pv.ownBlock.toList) := (Moved.refl _ _).setCell _ _ _ (.inl (by simp))
        have hm3 : Moved w w3 (bd :: bm :: pv.ownBlock.toList) := hm1.trans (Moved.of_grown (F := bd :: bm :: pv.ownBlock.toList) hg3 (fun k hk => by simp [hk])) (fun k hk => .inl hk)
        have hbm : w3.heap[bm]? = w.heap[bm]? := (hg3.block bm (by rw [World.size_setCell]; exact hm.lt) (fun e => h6 e.symm)).trans (Below.heap_setCell _ _ _ _ (fun e => h4 e.symm))
        refine ⟨rfl, _, ⟨wrap64 (l - 1), bm, _, ?_, hus.out, ⟨wrap64_wf _, fun u hu => by simp at hu; rcases hu with hu | rfl; exact HP.out.1 u hu; exact HP.out.2⟩, h4, fun e => (hne _ e).1 rfl, fun e => (hne _ e).2.1 rfl, hm.keep ((Below.heap_setCell _ _ _ _ (fun e => h4 e.symm)).trans hbm), ?_, rfl⟩, hm3.setCell _ _ _ (.inl (by simp)), fun k hk => ?_⟩
        · rw [Dk.cells_setCell hw3]
          cases hsl : s.lim <;> simp [Dk.blk, Dk.used]
        · simp only [List.length_append, List.length_cons, List.length_nil, Nat.zero_add, Dk.flat_append]
          exact own_heap ho3 (fun k hk => Below.heap_setCell _ _ _ _ (hne k hk).1)
        · simp only [List.mem_cons, Option.mem_toList] at hk
          rcases hk with rfl | rfl | hk
          · exact .inl (by simp)
          · exact .inl (by simp)
          · exact (hne k hk).2.2
  · have hh' : Dk.has s i = false := by simpa using hh
    refine Calls.mono (R := fun e w' => e = .returned (.int .i64 1) ∧ w = w') ?_ (fun _ _ ⟨h1, h2⟩ => ⟨by simp [h1, Dk.write, hh'], by simpa [← h2, Dk.write, hh'] using hd0.does⟩)
    clear hd0 hm ho h2 hh
    go_enter Tryz.func30, Tryz.ntmps30
    go_wp2_with (go_at_call 47; refine (has_at false _ _ _ _ _ _ _ _ h1 hh').mono ?_; rintro e w' ⟨rfl, rfl⟩)
    go_ret
    exact ⟨rfl, rfl⟩

set_option maxRecDepth 100000 in
set_option maxHeartbeats 400000 in
theorem dPending_any (bd : Nat) (s : Dk.St) (F : List Nat) (w : World) (hd : Dk.Of w bd s F) :
    Calls Tryz.prog 44 #[.pointer (some ⟨bd, 0, none⟩)] w fun e w' => e = .returned (.int .i64 s.pend.length) ∧ w = w' := by
  obtain ⟨l, bm, pv, h1, h2, h3, h4, h5, h6, hm, ho, rfl⟩ := hd
  have c4 : w.cell? ⟨bd, 4, none⟩ = some pv := by rw [Dk.cell_of h1]; rfl
  obtain ⟨A, c, rfl⟩ : ∃ A c, pv = .slice A s.pend.length c := by
    rcases ho.2 with ⟨rfl, hn⟩ | ⟨g, cap, cur, rfl, _⟩
    · exact ⟨none, 0, by rw [hn]⟩
    · exact ⟨_, _, rfl⟩
  clear h1 h2 h3 h4 h5 h6 hm ho
  go_enter Tryz.func44, Tryz.ntmps44
  go_wp2
  go_ret
  exact ⟨rfl, rfl⟩

set_option maxRecDepth 100000 in
set_option maxHeartbeats 400000 in
theorem dLimit_any (bd : Nat) (s : Dk.St) (F : List Nat) (n : Int) (hn : (Lit.int .i64 n).wf = true) (w : World) (hd : Dk.Of w bd s F) :
    Calls Tryz.prog 19 #[.pointer (some ⟨bd, 0, none⟩), .int .i64 n] w fun e w' => e = .returned (.tuple #[]) ∧ Dk.Does w bd F { s with lim := some n } w' := by
  obtain ⟨l, bm, pv, h1, h2, h3, h4, h5, h6, hm, ho, rfl⟩ := hd
  have f0 : w.frozen? ⟨bd, 0, none⟩ = false := Dk.free_of h1
  have f1 : w.frozen? ⟨bd, 1, none⟩ = false := Dk.free_of h1
  have c0 : w.cell? ⟨bd, 0, none⟩ = some (.bool s.lim.isSome) := by rw [Dk.cell_of h1]; rfl
  have c1 : w.cell? ⟨bd, 1, none⟩ = some (.int .i64 l) := by rw [Dk.cell_of h1]; rfl
  have HP := Lib.hid h3.2
  have H := Lib.hid (And.intro h1 (And.intro h4 (And.intro h5 (And.intro h6 (And.intro hm ho)))))
  clear h1 h2 h3 h4 h5 h6 hm ho
  go_enter Tryz.func19, Tryz.ntmps19
  go_wp2
  go_end0
  obtain ⟨h1, h4, h5, h6, hm, ho⟩ := H.out
  refine ⟨rfl, _, ⟨n, bm, pv, ?_, by rintro k ⟨⟩; rfl, ⟨hn, HP.out⟩, h4, h5, h6, hm.keep ?_, own_heap ho ?_, rfl⟩, ((Moved.refl _ _).setCell _ _ _ (.inl (by simp))).setCell _ _ _ (.inl (by simp)), fun k hk => .inl hk⟩
  · rw [Dk.cells_setCell (Dk.cells_setCell h1 _)]; rfl
  · rw [Below.heap_setCell _ _ _ _ (fun e => h4 e.symm), Below.heap_setCell _ _ _ _ (fun e => h4 e.symm)]
  · intro k hk
    have hne : k ≠ bd := fun e => h5 (by rw [hk, e])
    rw [Below.heap_setCell _ _ _ _ hne, Below.heap_setCell _ _ _ _ hne]

set_option maxRecDepth 100000 in
set_option maxHeartbeats 400000 in
theorem dNew_any (n : Int) (hn : 1 ≤ n ∧ n ≤ 4096) (w : World) :
    Calls Tryz.prog 22 #[.int .i64 n] w fun e w' => e = .returned (.tuple #[.pointer (some ⟨w.heap.size + 1, 0, none⟩), .int .i64 0]) ∧ Below w.heap.size w w' ∧ Dk.Of w' (w.heap.size + 1) ⟨none, n, fun _ => none, 0, []⟩ [w.heap.size + 1, w.heap.size] := by
  have hmm := @run_makeMap Tryz.prog
  obtain ⟨hn1, hn2⟩ := hn
  go_enter Tryz.func22, Tryz.ntmps22
  go_wp2
  go_ret2
  refine ⟨rfl, ((Below.refl _ _).alloc (Nat.le_refl _) _).alloc (by simp) _, 0, w.heap.size, .slice none 0 0, ?_, by rintro k ⟨⟩, ⟨by decide, fun u hu => by simp at hu⟩, by omega, by simp [Value.ownBlock], by simp [Value.ownBlock], ((MapOf.made w _).alloc _).congr (fun _ => rfl), World.ownsRow_nil _ _ _ _, by simp [Value.ownBlock]⟩
  have := heap_alloc_new (w.alloc (.map #[] 0)) (Dk.blk false 0 n w.heap.size (.slice none 0 0))
  rw [World.size_alloc] at this
  exact this
end Go.Proofs.YtkoegbjnhoecoaaGreatDoor
namespace Go.Proofs.YtkoegbjnhoecoaaGreatDoor
open Go.Maps Go.RowKit

theorem Dk.row_cells {w : World} {pv : Value} {l : List Dk.Wr} (h : w.ownsRow 0 80 2 pv l.length (Dk.flat l)) :
    ∃ A c, pv = .slice A l.length c ∧ l.length ≤ c ∧ (l ≠ [] → ∃ g, A = some ⟨g, 0, none⟩ ∧ ∀ k (hk : k < l.length), w.cell? ⟨g, k * 2, none⟩ = some (.int .i64 l[k].1) ∧ w.cell? ⟨g, k * 2 + 1, none⟩ = some (.string l[k].2)) := by
  rcases h.2 with ⟨rfl, hn⟩ | ⟨g, cap, cur, rfl, _, hg, hc, _, hs, ht⟩
  · have : l = [] := List.eq_nil_of_length_eq_zero hn
    exact ⟨none, 0, by rw [hn], by omega, fun hne => absurd this hne⟩
  · refine ⟨_, _, rfl, hc, fun _ => ⟨g, rfl, fun k hk => ?_⟩⟩
    have h1 := Dk.flat_at l k hk
    have hx : ∀ j y, (Dk.flat l)[j]? = some y → w.cell? ⟨g, j, none⟩ = some y := by
      intro j y hj
      rw [Dk.cell_of hg, ← Array.getElem?_toList]
      rw [← ht, List.getElem?_take] at hj
      split at hj
      · exact hj
      · cases hj
    rw [Nat.mul_comm k 2]
    exact ⟨hx _ _ h1.1, hx _ _ h1.2⟩

set_option maxRecDepth 100000 in
set_option maxHeartbeats 1000000 in
theorem dDo_any (bd : Nat) (is : Bool) (l n : Int) (bm : Nat) (pv : Value) (u : Dk.Wr) (g : Int → Option Dk.Wr) (cnt : Nat) (w : World) (h : w.heap[bd]? = some (Dk.blk is l n bm pv)) (hm : MapOf w 3 bm cnt (fun j => (g j).map Dk.enc)) (hc : cnt < 1000000) (hu : (Lit.int .i64 u.1).wf = true) :
    Calls Tryz.prog 37 #[.pointer (some ⟨bd, 0, none⟩), .agg #[.int .i64 u.1, .string u.2]] w fun e w' => e = .returned (.tuple #[]) ∧ MapOf w' 3 bm (cnt + 1) (fun j => (Dk.put g u j).map Dk.enc) ∧ Moved w w' [bm] := by
  have c3 : w.cell? ⟨bd, 3, none⟩ = some (.map (some bm)) := by rw [Dk.cell_of h]; rfl
  have hlt := lt_of_block h
  have c3' : (w.alloc (.cells #[.int .i64 u.1, .string u.2] 80)).cell? ⟨bd, 3, none⟩ = some (.map (some bm)) := by rw [World.cell?_alloc_past _ _ _ (by omega)]; exact c3
  have d0 : (w.alloc (.cells #[.int .i64 u.1, .string u.2] 80)).cell? ⟨w.heap.size, 0, none⟩ = some (.int .i64 u.1) := by rw [Dk.cell_of (heap_alloc_new w _)]; rfl
  have d1 : (w.alloc (.cells #[.int .i64 u.1, .string u.2] 80)).cell? ⟨w.heap.size, 1, none⟩ = some (.string u.2) := by rw [Dk.cell_of (heap_alloc_new w _)]; rfl
  obtain ⟨w2, hr, hm2, hg2⟩ := MapOf.update (w := (w.alloc (.cells #[.int .i64 u.1, .string u.2] 80)).drew) (hm.alloc _) Tryz.underlying3 Tryz.underlying75 (by simp only [maxLen]; omega) u.1 hu (.agg #[.int .i64 u.1, .string u.2])
  clear h
  go_enter Tryz.func37, Tryz.ntmps37
  go_wp2
  refine wp_region_quiet_tail 7 (by kernel_rfl) (by kernel_rfl) ?_
  simp only [List.take_succ_cons, List.take_zero, List.drop_succ_cons, List.drop_zero]
  repeat (go_big_quiet_step (fail))
  refine wpQuiet_nil ?_
  go_wp2
  go_end0
  refine ⟨rfl, hm2.congr (fun j => ?_), ?_⟩
  · unfold Dk.put
    by_cases hj : j = u.1 <;> simp [hj, Dk.enc]
  · exact Moved.trans (w' := (w.alloc (.cells #[.int .i64 u.1, .string u.2] 80)).drew) (((Moved.refl w [bm]).alloc _).drewN 1) (Moved.of_grown (F := [bm]) hg2 (fun k hk => by injection hk with hk; simp [hk])) (fun k hk => .inl hk)

theorem Dk.puts_take (h : Int → Option Dk.Wr) (l : List Dk.Wr) (k : Nat) (hk : k < l.length) : Dk.puts h (l.take (k + 1)) = Dk.put (Dk.puts h (l.take k)) l[k] := by
  unfold Dk.puts
  rw [List.take_succ_eq_append_getElem hk, List.foldl_append]
  rfl

set_option maxRecDepth 100000 in
set_option maxHeartbeats 1000000 in
theorem dSync_any (bd : Nat) (s : Dk.St) (F : List Nat) (w : World) (hd : Dk.Of w bd s F) (hp : s.pend.length + s.cnt < 1000000) :
    Calls Tryz.prog 32 #[.pointer (some ⟨bd, 0, none⟩)] w fun e w' => e = .returned (.int .i64 (Dk.sync s).1) ∧ Dk.Does w bd F (Dk.sync s).2 w' := by
  have hd0 := hd
  obtain ⟨l, bm, pv, h1, h2, ⟨h3, hpw⟩, h4, h5, h6, hm, ho, rfl⟩ := hd
  by_cases hdd : Dk.dead s.lim = true
  · refine Calls.mono (R := fun e w' => e = .returned (.int .i64 8) ∧ w = w') ?_ (fun _ _ ⟨h1, h2⟩ => ⟨by simp [h1, Dk.sync, hdd], by simpa [← h2, Dk.sync, hdd] using hd0.does⟩)
    have hu := (Dk.dead_eq _ _ h2).trans hdd
    clear hd0 hm ho h2
    go_enter Tryz.func32, Tryz.ntmps32
    go_wp2_with (go_at_call 48; refine (use_dead _ _ _ _ _ _ _ h1 hu).mono ?_; rintro e w' ⟨rfl, rfl⟩)
    go_ret
    exact ⟨rfl, rfl⟩
  · have hdd' : Dk.dead s.lim = false := by simpa using hdd
    refine Calls.mono (R := fun e w' => e = .returned (.int .i64 0) ∧ Dk.Does w bd (bd :: bm :: pv.ownBlock.toList) { s with lim := Dk.used s.lim, held := Dk.puts s.held s.pend, cnt := s.cnt + s.pend.length, pend := [] } w') ?_ (fun _ _ ⟨h1, h2⟩ => ⟨by simp [h1, Dk.sync, hdd], by simpa [Dk.sync, hdd] using h2⟩)
    have hu := (Dk.dead_eq _ _ h2).trans hdd'
    have hus := Lib.hid (Dk.used_eq _ _ h2 h3 hdd')
    have k1 := Dk.cells_setCell h1 (j := 1) (.int .i64 (wrap64 (l - 1)))
    have hm1 : MapOf (w.setCell ⟨bd, 1, none⟩ (.int .i64 (wrap64 (l - 1)))) 3 bm s.cnt (fun i => (s.held i).map Dk.enc) := hm.keep (Below.heap_setCell _ _ _ _ (fun e => h4 e.symm))
    have c4 : (w.setCell ⟨bd, 1, none⟩ (.int .i64 (wrap64 (l - 1)))).cell? ⟨bd, 4, none⟩ = some pv := by rw [Dk.cell_of k1]; rfl
    have ho1 := ownsRow_setCell_other (a := ⟨bd, 1, none⟩) ho h5 (.int .i64 (wrap64 (l - 1)))
    have M1 : Moved w (w.setCell ⟨bd, 1, none⟩ (.int .i64 (wrap64 (l - 1)))) (bd :: bm :: pv.ownBlock.toList) := (Moved.refl _ _).setCell _ _ _ (.inl (by simp))
    obtain ⟨A, c, rfl, hlc, hA⟩ := Dk.row_cells ho1
    have HA := Lib.hid hA
    have HP := Lib.hid hpw
    have H5 := Lib.hid h5
    have H6 := Lib.hid h6
    have hsz : (w.setCell ⟨bd, 1, none⟩ (.int .i64 (wrap64 (l - 1)))).heap.size = w.heap.size := World.size_setCell _ _ _
    have HM := Lib.hid hm1
    clear hd0 hdd hdd' h2 hpw hA h5 h6 ho ho1 hm1
    go_enter Tryz.func32, Tryz.ntmps32
    go_wp2_with (go_at_call 48; refine (use_live _ _ _ _ _ _ _ h1 hu).mono ?_; rintro e w' ⟨rfl, rfl⟩)
    generalize hW : w.setCell ⟨bd, 1, none⟩ (.int .i64 (wrap64 (l - 1))) = w1 at *
    clear hW
    go_loopw [18] (fun i wr => ∃ k : Nat, k ≤ s.pend.length ∧ i = .int .i64 k ∧ MapOf wr 3 bm (s.cnt + k) (fun j => (Dk.puts s.held (s.pend.take k) j).map Dk.enc) ∧ Moved w1 wr [bm]) (fun i _ => s.pend.length - (intOf i).toNat)
    case atStart => exact ⟨0, Nat.zero_le _, rfl, HM.out, Moved.refl _ _⟩
    case round =>
      obtain ⟨k, hk, rfl, hmk, hmv⟩ := hrel
      have hbd : wr.heap[bd]? = w1.heap[bd]? := hmv.block bd (lt_of_block k1) (by simp [h4])
      have kr := hbd.trans k1
      by_cases hlt : k < s.pend.length
      · obtain ⟨g, rfl, hc⟩ := HA.out (by rintro h; simp [h] at hlt)
        obtain ⟨a1, a2⟩ := hc k hlt
        have hgm : g ≠ bm := fun e => H6.out (by simp [Value.ownBlock, e])
        have hgb : wr.heap[g]? = w1.heap[g]? := hmv.block g (World.block_lt_of_cell? _ _ a1) (by simp [hgm])
        have b1 := (World.cell?_of_block (a := ⟨g, k * 2, none⟩) hgb).trans a1
        have b2 := (World.cell?_of_block (a := ⟨g, k * 2 + 1, none⟩) hgb).trans a2
        have hwf := HP.out _ (List.getElem_mem hlt)
        have HT := Lib.hid (Dk.puts_take s.held s.pend k hlt)
        have hli : (k : Int) < (s.pend.length : Int) := by omega
        clear hc a1 a2 hgb
        generalize s.pend[k] = u at *
        have kr2 : ∀ o, (wr.alloc o).heap[bd]? = _ := fun o => (Below.heap_alloc _ _ _ (lt_of_block kr)).trans kr
        go_wp2_with (go_at_call 37; refine (dDo_any _ _ _ _ _ _ u _ _ _ (kr2 _) (hmk.alloc _) (by omega) hwf).mono ?_; rintro e w' ⟨rfl, hm', hv'⟩)
        go_roundw
        case rel => exact ⟨k + 1, by omega, by go_num, by rw [HT.out]; exact hm', ((hmv.alloc _).trans hv' (fun _ h => .inl h))⟩
        case measure => simp [intOf]; omega
      · obtain rfl : k = s.pend.length := by omega
        have f4 : wr.frozen? ⟨bd, 4, none⟩ = false := Dk.free_of kr
        have c4' : wr.cell? ⟨bd, 4, none⟩ = some (.slice A s.pend.length c) := by rw [Dk.cell_of kr]; rfl
        go_wp2
        go_ret
        rw [List.take_length] at hmk
        refine ⟨rfl, [bd, bm], ⟨wrap64 (l - 1), bm, .slice none 0 0, ?_, hus.out, ⟨wrap64_wf _, fun u hu => by simp at hu⟩, h4, by simp [Value.ownBlock], by simp [Value.ownBlock], hmk.keep (Below.heap_setCell _ _ _ _ (fun e => h4 e.symm)), World.ownsRow_nil _ _ _ _, by simp [Value.ownBlock]⟩, (M1.trans hmv (fun k hk => .inl (by simp at hk; simp [hk]))).setCell _ _ _ (.inl (by simp)), fun k hk => .inl (by simp at hk ⊢; rcases hk with rfl | rfl; simp; simp)⟩
        rw [Dk.cells_setCell kr]
        cases hsl : s.lim <;> simp [Dk.blk, Dk.used]

theorem Dk.kept_take (l : List Dk.Wr) (ks : List Bool) (k : Nat) (h : k < l.length) : Dk.kept (l.take (k + 1)) ks = Dk.kept (l.take k) ks ++ (if ks[k]?.getD false then [l[k]] else []) := by
  induction l generalizing ks k with
  | nil => simp at h
  | cons a l ih =>
    cases ks with
    | nil => cases k <;> simp [Dk.kept]
    | cons b ks =>
      cases k with
      | zero => cases b <;> simp [Dk.kept]
      | succ k =>
        have := ih ks k (by simpa using h)
        simp only [List.take_succ_cons, Dk.kept, List.getElem?_cons_succ, List.getElem_cons_succ]
        rw [this]
        cases b <;> simp
theorem Dk.puts_append (h : Int → Option Dk.Wr) (l m : List Dk.Wr) : Dk.puts h (l ++ m) = Dk.puts (Dk.puts h l) m := by simp [Dk.puts, List.foldl_append]

set_option maxRecDepth 100000 in
set_option maxHeartbeats 1000000 in
theorem dCrash_any (bd : Nat) (s : Dk.St) (F : List Nat) (v : Value) (ks : List Bool) (w : World) (hd : Dk.Of w bd s F) (hp : s.pend.length + s.cnt < 1000000) (hr : ∀ w', Moved w w' F → ∃ B, Row Value.bool w' B v ks) :
    Calls Tryz.prog 17 #[.pointer (some ⟨bd, 0, none⟩), v] w fun e w' => e = .returned (.tuple #[]) ∧ Dk.Does w bd F (Dk.crash s ks) w' := by
  obtain ⟨l, bm, pv, h1, h2, ⟨h3, hpw⟩, h4, h5, h6, hm, ho, rfl⟩ := hd
  have c4 : w.cell? ⟨bd, 4, none⟩ = some pv := by rw [Dk.cell_of h1]; rfl
  obtain ⟨B0, hr0⟩ := hr w (Moved.refl _ _)
  obtain ⟨Ak, ck, rfl, hkc, hkm, _⟩ := hr0.shape
  obtain ⟨A, c, rfl, hlc, hA⟩ := Dk.row_cells ho
  have HA := Lib.hid hA
  have HP := Lib.hid hpw
  have H6 := Lib.hid h6
  have HM := Lib.hid hm
  have HR := Lib.hid hr
  clear h2 h3 hpw hA h5 h6 ho hm hr hr0
  go_enter Tryz.func17, Tryz.ntmps17
  go_wp2
  go_loopw [11] (fun i wr => ∃ k : Nat, k ≤ s.pend.length ∧ i = .int .i64 k ∧ MapOf wr 3 bm (s.cnt + k) (fun j => (Dk.puts s.held (Dk.kept (s.pend.take k) ks) j).map Dk.enc) ∧ Moved w wr [bm]) (fun i _ => s.pend.length - (intOf i).toNat)
  case atStart => exact ⟨0, Nat.zero_le _, rfl, HM.out, Moved.refl _ _⟩
  case round =>
    obtain ⟨k, hk, rfl, hmk, hmv⟩ := hrel
    have hbd : wr.heap[bd]? = w.heap[bd]? := hmv.block bd (lt_of_block h1) (by simp [h4])
    have kr := hbd.trans h1
    by_cases hlt : k < s.pend.length
    · obtain ⟨g, rfl, hc⟩ := HA.out (by rintro h; simp [h] at hlt)
      obtain ⟨a1, a2⟩ := hc k hlt
      have hgm : g ≠ bm := fun e => H6.out (by simp [Value.ownBlock, e])
      have hgb : wr.heap[g]? = w.heap[g]? := hmv.block g (World.block_lt_of_cell? _ _ a1) (by simp [hgm])
      have b1 := (World.cell?_of_block (a := ⟨g, k * 2, none⟩) hgb).trans a1
      have b2 := (World.cell?_of_block (a := ⟨g, k * 2 + 1, none⟩) hgb).trans a2
      have hwf := HP.out _ (List.getElem_mem hlt)
      have HT := Lib.hid (Dk.kept_take s.pend ks k hlt)
      have hli : (k : Int) < (s.pend.length : Int) := by omega
      clear hc a1 a2 hgb
      generalize s.pend[k] = u at *
      have kr2 : ∀ o, (wr.alloc o).heap[bd]? = _ := fun o => (Below.heap_alloc _ _ _ (lt_of_block kr)).trans kr
      by_cases hki : k < ks.length
      · have hki' : (k : Int) < (ks.length : Int) := by omega
        obtain ⟨B1, hr1⟩ := HR.out (wr.alloc (.cells #[.int .i64 u.1, .string u.2] 80)) ((hmv.more (by simp)).alloc _)
        obtain ⟨_, _, e1, _, _, hc1⟩ := hr1.shape
        cases e1
        obtain ⟨bk, ok, rfl, _, hc1⟩ := hc1 (by rintro rfl; simp at hki)
        have ck1 := hc1 k hki
        have HB : Hid (ks[k]?.getD false = ks[k]) := by show _ = _; simp [hki]
        clear hc1
        generalize ks[k] = b at *
        cases b
        · go_wp2
          go_roundw
          case rel => exact ⟨k + 1, by omega, by go_num, by rw [HT.out, HB.out]; simpa using (hmk.alloc _).mono (by omega), hmv.alloc _⟩
          case measure => simp [intOf]; omega
        · go_wp2_with (go_at_call 37; refine (dDo_any _ _ _ _ _ _ u _ _ _ (kr2 _) (hmk.alloc _) (by omega) hwf).mono ?_; rintro e w' ⟨rfl, hm', hv'⟩)
          go_roundw
          case rel => exact ⟨k + 1, by omega, by go_num, by rw [HT.out, HB.out, if_pos rfl, Dk.puts_append]; exact hm', ((hmv.alloc _).trans hv' (fun _ h => .inl h))⟩
          case measure => simp [intOf]; omega
      · have hki' : ¬ (k : Int) < (ks.length : Int) := by omega
        have HB : Hid (ks[k]?.getD false = false) := by show _ = _; simp [List.getElem?_eq_none (Nat.le_of_not_lt hki)]
        go_wp2
        go_roundw
        case rel => exact ⟨k + 1, by omega, by go_num, by rw [HT.out, HB.out]; simpa using (hmk.alloc _).mono (by omega), hmv.alloc _⟩
        case measure => simp [intOf]; omega
    · obtain rfl : k = s.pend.length := by omega
      have f0 : wr.frozen? ⟨bd, 0, none⟩ = false := Dk.free_of kr
      have f1 : wr.frozen? ⟨bd, 1, none⟩ = false := Dk.free_of kr
      have f4 : wr.frozen? ⟨bd, 4, none⟩ = false := Dk.free_of kr
      have c0' : wr.cell? ⟨bd, 0, none⟩ = some (.bool s.lim.isSome) := by rw [Dk.cell_of kr]; rfl
      have c1' : wr.cell? ⟨bd, 1, none⟩ = some (.int .i64 l) := by rw [Dk.cell_of kr]; rfl
      have c4' : wr.cell? ⟨bd, 4, none⟩ = some (.slice A s.pend.length c) := by rw [Dk.cell_of kr]; rfl
      go_wp2
      go_end0
      rw [List.take_length] at hmk
      refine ⟨rfl, [bd, bm], ⟨0, bm, .slice none 0 0, ?_, by rintro k ⟨⟩, ⟨by decide, fun u hu => by simp [Dk.crash] at hu⟩, h4, by simp [Value.ownBlock], by simp [Value.ownBlock], hmk.keep ?_, World.ownsRow_nil _ _ _ _, by simp [Value.ownBlock]⟩, (((hmv.more (fun k hk => by simp at hk; simp [hk])).setCell _ _ _ (.inl (by simp))).setCell _ _ _ (.inl (by simp))).setCell _ _ _ (.inl (by simp)), fun k hk => .inl (by simp at hk ⊢; rcases hk with rfl | rfl; simp; simp)⟩
      · rw [Dk.cells_setCell (Dk.cells_setCell (Dk.cells_setCell kr _) _)]
        simp [Dk.blk, Dk.crash]
      · rw [Below.heap_setCell _ _ _ _ (fun e => h4 e.symm), Below.heap_setCell _ _ _ _ (fun e => h4 e.symm), Below.heap_setCell _ _ _ _ (fun e => h4 e.symm)]
end Go.Proofs.YtkoegbjnhoecoaaGreatDoor
namespace Go.Proofs.YtkoegbjnhoecoaaGreatDoor
open Go.Maps Go.RowKit Go.Shelf

attribute [local go_sem] Oper.semAt_some

namespace Dk
/-- What has come, of the writes zs, when k rounds are over: the last k, the last first. -/
def upto (zs : List Wr) (k : Nat) : List (Int × Wr) := (List.range k).map fun j => (((zs.length - 1 - j : Nat) : Int), zs[zs.length - 1 - j]?.getD (0, ⟨#[]⟩))
theorem upto_succ (zs : List Wr) (k : Nat) : upto zs (k + 1) = upto zs k ++ [(((zs.length - 1 - k : Nat) : Int), zs[zs.length - 1 - k]?.getD (0, ⟨#[]⟩))] := by simp [upto, List.range_succ]
theorem upto_length (zs : List Wr) (k : Nat) : (upto zs k).length = k := by simp [upto]

theorem puts_last (h : Int → Option Wr) (l : List Wr) (u : Wr) (i : Int) : puts h (l ++ [u]) i = if i = u.1 then some u else puts h l i := by rw [puts_append]; rfl
/-- None of the last k is of sector i: the others tell. -/
theorem puts_none (h : Int → Option Wr) (zs : List Wr) (i : Int) (k : Nat) (hk : k ≤ zs.length) (hn : ∀ y ∈ upto zs k, y.2.1 ≠ i) : puts h zs i = puts h (zs.take (zs.length - k)) i := by
  induction k with
  | zero => simp
  | succ k ih =>
    rw [upto_succ] at hn
    rw [ih (by omega) (fun y hy => hn y (by simp [hy]))]
    have hlt : zs.length - 1 - k < zs.length := by omega
    have := hn _ (List.mem_append_right _ (List.mem_singleton.2 rfl))
    simp only [List.getElem?_eq_getElem hlt, Option.getD_some] at this
    rw [show zs.length - k = (zs.length - 1 - k) + 1 by omega, List.take_succ_eq_append_getElem hlt, puts_last, if_neg (fun e => this e.symm), show zs.length - 1 - k = zs.length - (k + 1) by omega]
theorem puts_some (h : Int → Option Wr) (zs : List Wr) (i : Int) (k : Nat) (hk : k < zs.length) (hn : ∀ y ∈ upto zs k, y.2.1 ≠ i) (he : (zs[zs.length - 1 - k]?.getD (0, ⟨#[]⟩)).1 = i) : puts h zs i = some (zs[zs.length - 1 - k]?.getD (0, ⟨#[]⟩)) := by
  rw [puts_none h zs i k (by omega) hn]
  have hlt : zs.length - 1 - k < zs.length := by omega
  simp only [List.getElem?_eq_getElem hlt, Option.getD_some] at he ⊢
  rw [show zs.length - k = (zs.length - 1 - k) + 1 by omega, List.take_succ_eq_append_getElem hlt, puts_last, if_pos he.symm]
end Dk

set_option maxRecDepth 100000 in
set_option maxHeartbeats 2000000 in
/-- slices.Backward's closure: for every loop body that keeps what lay below n₀. -/
theorem back1_in (F : Fence) (n : Nat) (hF : F.fn 60) (hro : F.round = none) (hn : 1 ≤ n) (l Bs n₀ : Nat) (A : Option Addr) (c : Nat) (zs : List Dk.Wr) (hl : zs.length < 1000000) (hB : Bs < n₀) (J Jx : List (Int × Dk.Wr) → World → Prop)
    (hY : ∀ pre x W, J pre W → pre.length < zs.length → YieldAt F (n - 1) Tryz.prog l #[.int .i64 x.1, .agg #[.int .i64 x.2.1, .string x.2.2]] W fun e W' =>
      (e = .returned (.bool true) ∧ J (pre ++ [x]) W' ∧ Below n₀ W W') ∨ (e = .returned (.bool false) ∧ Jx (pre ++ [x]) W'))
    (W : World) (hBs : W.cell? ⟨Bs, 0, none⟩ = some (.slice A zs.length c))
    (hc : zs ≠ [] → ∃ g, A = some ⟨g, 0, none⟩ ∧ g < n₀ ∧ ∀ k (hk : k < zs.length), W.cell? ⟨g, k * 2, none⟩ = some (.int .i64 zs[k].1) ∧ W.cell? ⟨g, k * 2 + 1, none⟩ = some (.string zs[k].2)) (h0 : J [] W) :
    CallsIn F n Tryz.prog 60 #[.func (.yield l) #[] #[], .pointer (some ⟨Bs, 0, none⟩)] W fun e W' => (∃ v, e = .returned v) ∧
      ((∃ ys, ys = Dk.upto zs zs.length ∧ J ys W') ∨ (∃ pre, (∃ k, k ≤ zs.length ∧ pre = Dk.upto zs k) ∧ Jx pre W')) := by
  have HC := Lib.hid hc
  clear hc
  refine callsIn_of_wp Tryz.func60 rfl hF ?_ hro
  simp only [Tryz.ntmps60, List.size_toArray, List.length_cons, List.length_nil, Nat.reduceAdd, Nat.reduceSub, Array.replicate_succ, Array.replicate_zero, List.push_toArray, List.append_toArray, List.nil_append, List.cons_append]
  gi_wp2
  gi_loopw [3] (fun i wr => ∃ k : Nat, k ≤ zs.length ∧ i = .int .i64 ((zs.length : Int) - 1 - k) ∧ J (Dk.upto zs k) wr ∧ Below n₀ W wr)
    (fun i _ => (intOf i + 1).toNat)
  case atStart => exact ⟨0, Nat.zero_le _, by simp, h0, Below.refl _ _⟩
  case round =>
    obtain ⟨k, hk, rfl, hJs, hnx⟩ := hrel
    have hBr := (hnx.cell (p := ⟨Bs, 0, none⟩) hB).trans hBs
    by_cases hlt : k < zs.length
    · obtain ⟨g, rfl, hg, hcs⟩ := HC.out (by rintro h; simp [h] at hlt)
      have hlt2 : zs.length - 1 - k < zs.length := by omega
      obtain ⟨a1, a2⟩ := hcs _ hlt2
      have b1 := (hnx.cell (p := ⟨g, (zs.length - 1 - k) * 2, none⟩) hg).trans a1
      have b2 := (hnx.cell (p := ⟨g, (zs.length - 1 - k) * 2 + 1, none⟩) hg).trans a2
      have HU : Hid (Dk.upto zs (k + 1) = Dk.upto zs k ++ [(((zs.length - 1 - k : Nat) : Int), zs[zs.length - 1 - k])]) := by
        show _ = _
        rw [Dk.upto_succ, List.getElem?_eq_getElem hlt2, Option.getD_some]
      obtain ⟨fn, tmps, assign, body, hy, hR⟩ := hY _ (((zs.length - 1 - k : Nat) : Int), zs[zs.length - 1 - k]) wr hJs (by rw [Dk.upto_length]; exact hlt)
      have hi : ((zs.length : Int) - 1 - k) = ((zs.length - 1 - k : Nat) : Int) := by omega
      rw [hi]
      have HI := Lib.hid hi
      clear a1 a2 hcs hi
      dsimp only at hy hR
      generalize zs[zs.length - 1 - k] = u at *
      generalize hj : zs.length - 1 - k = j at *
      gi_wp2
      refine hR.mono ?_
      rintro e W3 (⟨rfl, hJ3, hk3⟩ | ⟨rfl, hJx3⟩)
      · gi_wp2
        go_roundw
        case rel => exact ⟨k + 1, by omega, by have := HI.out; congr 1; omega, by rw [HU.out]; exact hJ3, hnx.trans hk3⟩
        case measure => simp [intOf] <;> omega
      · gi_wp2
        refine bodyPost_ret (results_none rfl _ _ _) rfl ?_
        exact ⟨⟨_, rfl⟩, .inr ⟨_, ⟨k + 1, by omega, HU.out.symm⟩, hJx3⟩⟩
    · obtain rfl : k = zs.length := by omega
      gi_wp2
      go_end0
      exact ⟨⟨_, rfl⟩, .inl ⟨_, rfl, hJs⟩⟩

set_option maxRecDepth 100000 in
/-- slices.Backward(s): the slice value is boxed; the function value captures the box. -/
theorem back_in (F : Fence) (n : Nat) (hF : F.fn 53) (hro : F.round = none) (a : Option Addr) (len cap : Nat) (w : World) :
    CallsIn F n Tryz.prog 53 #[.slice a len cap] w fun e w' => e = .returned (.func (.func 60) #[] #[.pointer (some ⟨w.heap.size, 0, none⟩)]) ∧ w' = w.alloc (.cells #[.slice a len cap] 76) := by
  have hmf : ∀ fn first cap w, (Instr.makeFunc fn first cap).run Tryz.prog w = .ok (.func fn first cap) w := fun _ _ _ _ => rfl
  refine callsIn_of_wp Tryz.func53 rfl hF ?_ hro
  simp only [Tryz.ntmps53, List.size_toArray, List.length_cons, List.length_nil, Nat.reduceAdd, Nat.reduceSub, Array.replicate_succ, Array.replicate_zero, List.push_toArray, List.append_toArray, List.nil_append, List.cons_append]
  gi_wp2
  go_ret
  exact ⟨rfl, rfl⟩

theorem back_stops (F : Fence) (n : Nat) (hF : F.fn 60) (hro : F.round = none) (hn : 1 ≤ n) (Bs n₀ : Nat) (A : Option Addr) (c : Nat) (zs : List Dk.Wr) (hl : zs.length < 1000000) (w : World) (hB : Bs < n₀) (hn₀ : n₀ ≤ w.heap.size)
    (hBs : w.cell? ⟨Bs, 0, none⟩ = some (.slice A zs.length c))
    (hc : zs ≠ [] → ∃ g, A = some ⟨g, 0, none⟩ ∧ g < n₀ ∧ ∀ k (hk : k < zs.length), w.cell? ⟨g, k * 2, none⟩ = some (.int .i64 zs[k].1) ∧ w.cell? ⟨g, k * 2 + 1, none⟩ = some (.string zs[k].2)) :
    SeqStopsK F n Tryz.prog 60 #[.pointer (some ⟨Bs, 0, none⟩)] (fun x : Int × Dk.Wr => #[.int .i64 x.1, .agg #[.int .i64 x.2.1, .string x.2.2]]) (Below n₀) (fun ys => ys = Dk.upto zs zs.length)
      (fun pre => ∃ k, k ≤ zs.length ∧ pre = Dk.upto zs k) zs.length w := fun l J Jx W hW _ _ hY h0 =>
  back1_in F n hF hro hn l Bs n₀ A c zs hl hB J Jx hY W ((hW.cell (p := ⟨Bs, 0, none⟩) (Nat.lt_of_lt_of_le hB hn₀)).trans hBs)
    (fun hne => by
      obtain ⟨g, h1, h2, h3⟩ := hc hne
      exact ⟨g, h1, h2, fun k hk => ⟨(hW.cell (p := ⟨g, k * 2, none⟩) (Nat.lt_of_lt_of_le h2 hn₀)).trans (h3 k hk).1, (hW.cell (p := ⟨g, k * 2 + 1, none⟩) (Nat.lt_of_lt_of_le h2 hn₀)).trans (h3 k hk).2⟩⟩) h0

set_option maxRecDepth 100000 in
set_option maxHeartbeats 2000000 in
theorem dRead_any (bd : Nat) (s : Dk.St) (F : List Nat) (i : Int) (w : World) (hd : Dk.Of w bd s F) (hp : s.pend.length < 1000000) (hi : (Lit.int .i64 i).wf = true) :
    Calls Tryz.prog 38 #[.pointer (some ⟨bd, 0, none⟩), .int .i64 i] w fun e w' => e = .returned (.tuple #[.string (Dk.read s i).1, .int .i64 (Dk.read s i).2]) ∧ Below w.heap.size w w' := by
  obtain ⟨l, bm, pv, h1, h2, ⟨h3, hpw⟩, h4, h5, h6, hm, ho, rfl⟩ := hd
  by_cases hh : Dk.has s i = true
  · have HR : Hid (Dk.read s i = (Dk.at_ s i, 0)) := by simp [Hid, Dk.read, hh]
    rw [HR.out]
    obtain ⟨A, c, rfl, hlc, hA⟩ := Dk.row_cells ho
    have hlt := lt_of_block h1
    refine (callsIn_wide (n := 6)).1 ?_
    refine callsIn_of_wp_marks Tryz.func38 rfl trivial ?_ rfl
    simp only [Tryz.ntmps38, List.size_toArray, List.length_cons, List.length_nil, Nat.reduceAdd, Nat.reduceSub, Array.replicate_succ, Array.replicate_zero, List.push_toArray, List.append_toArray, List.nil_append, List.cons_append]
    have bI := ((Boxed.new w 3 (.int .i64 i)).alloc (.cells #[.string ⟨#[]⟩] 9)).alloc (.cells #[.int .i64 0] 31)
    have bS := (Boxed.new (w.alloc (.cells #[.int .i64 i] 3)) 9 (.string ⟨#[]⟩)).alloc (.cells #[.int .i64 0] 31)
    have bE := Boxed.new ((w.alloc (.cells #[.int .i64 i] 3)).alloc (.cells #[.string ⟨#[]⟩] 9)) 31 (.int .i64 0)
    simp only [World.size_alloc] at bS bE
    have hB0 : Below w.heap.size w (((w.alloc (.cells #[.int .i64 i] 3)).alloc (.cells #[.string ⟨#[]⟩] 9)).alloc (.cells #[.int .i64 0] 31)) := (((Below.refl _ w).alloc (Nat.le_refl _) _).alloc (by simp) _).alloc (by simp; omega) _
    have hsz : (((w.alloc (.cells #[.int .i64 i] 3)).alloc (.cells #[.string ⟨#[]⟩] 9)).alloc (.cells #[.int .i64 0] 31)).heap.size = w.heap.size + 3 := by simp
    have kd := (hB0.block bd hlt).trans h1
    have c4 : (((w.alloc (.cells #[.int .i64 i] 3)).alloc (.cells #[.string ⟨#[]⟩] 9)).alloc (.cells #[.int .i64 0] 31)).cell? ⟨bd, 4, none⟩ = some (.slice A s.pend.length c) := by rw [Dk.cell_of kd]; rfl
    have hA0 := Lib.hid hA
    have h1 := Lib.hid h1
    clear hA h2
    gi_wp2_with (first
      | (refine ⟨trivial, ?_⟩; gi_at_call 47; refine (callsIn_wide.2 (has_at true _ _ _ _ _ _ _ _ kd hh)).mono ?_; rintro e w' ⟨rfl, rfl⟩)
      | (refine ⟨trivial, ?_⟩; gi_at_call 53; refine (back_in Fence.wide _ trivial rfl _ _ _ _).mono ?_; rintro e w' ⟨rfl, rfl⟩))
    obtain ⟨W0, hW0⟩ : ∃ W0, (((w.alloc (.cells #[.int .i64 i] 3)).alloc (.cells #[.string ⟨#[]⟩] 9)).alloc (.cells #[.int .i64 0] 31)) = W0 := ⟨_, rfl⟩
    rw [hW0] at bI bS bE hB0 hsz kd c4 ⊢
    clear hW0
    have bB := Boxed.new W0 76 (.slice A s.pend.length c)
    have bI := bI.alloc (.cells #[.slice A s.pend.length c] 76)
    have bS := bS.alloc (.cells #[.slice A s.pend.length c] 76)
    have bE := bE.alloc (.cells #[.slice A s.pend.length c] 76)
    have hB1 := hB0.alloc hB0.size (.cells #[.slice A s.pend.length c] 76)
    have hsz1 : (W0.alloc (.cells #[.slice A s.pend.length c] 76)).heap.size = w.heap.size + 4 := by simp [hsz]
    generalize hW1 : W0.alloc (.cells #[.slice A s.pend.length c] 76) = W1 at *
    rw [hsz] at bB
    have hAW : s.pend ≠ [] → ∃ g, A = some ⟨g, 0, none⟩ ∧ g < w.heap.size + 4 ∧ ∀ k (hk : k < s.pend.length), W1.cell? ⟨g, k * 2, none⟩ = some (.int .i64 s.pend[k].1) ∧ W1.cell? ⟨g, k * 2 + 1, none⟩ = some (.string s.pend[k].2) := by
      intro hne
      obtain ⟨g, e1, hc⟩ := hA0.out hne
      have hg : g < w.heap.size := World.block_lt_of_cell? _ _ (hc 0 (List.length_pos_iff.2 hne)).1
      exact ⟨g, e1, by omega, fun k hk => ⟨(hB1.cell (p := ⟨g, k * 2, none⟩) hg).trans (hc k hk).1, (hB1.cell (p := ⟨g, k * 2 + 1, none⟩) hg).trans (hc k hk).2⟩⟩
    refine wpIn_rangeFunc_ownH (α := Int × Dk.Wr) rfl (by omega) (gf := 60) (lb := #[.pointer (some ⟨w.heap.size + 3, 0, none⟩)]) rfl trivial (enters_of Tryz.func60 (by kernel_rfl) rfl)
      (back_stops Fence.wide 5 trivial rfl (by omega) (w.heap.size + 3) (w.heap.size + 4) A c s.pend hp W1 (by omega) (by omega) bB.cell hAW) belowK_t (belowK_b (by omega)) (Below.refl _ _) (fun _ => rfl)
      (fun pre W => ((∀ y ∈ pre, y.2.1 ≠ i) ∧ (Boxed W w.heap.size 3 (.int .i64 i) ∧ Boxed W (w.heap.size + 1) 9 (.string ⟨#[]⟩) ∧ Boxed W (w.heap.size + 2) 31 (.int .i64 0) ∧ Boxed W (w.heap.size + 3) 76 (.slice A s.pend.length c))) ∧ Below w.heap.size w W)
      (fun c pre W => (c = .ret ∧ ∃ pre' x, pre = pre' ++ [x] ∧ (∀ y ∈ pre', y.2.1 ≠ i) ∧ x.2.1 = i ∧ Boxed W (w.heap.size + 1) 9 (.string x.2.2) ∧ Boxed W (w.heap.size + 2) 31 (.int .i64 0)) ∧ Below w.heap.size w W)
      (OwnFrom.and (OwnFrom.and (ownFrom_pure _ _) (OwnFrom.and (Own.from (boxed_own _ _ _) _) (OwnFrom.and (Own.from (boxed_own _ _ _) _) (OwnFrom.and (Own.from (boxed_own _ _ _) _) (Own.from (boxed_own _ _ _) _))))) (ownFrom_below (Nat.le_refl _) (by omega)))
      (fun c => OwnFrom.and (fun pre X Y row hs hg hr => by
        obtain ⟨h1, pre', x, h2, h3, h4, h5, h6⟩ := hs
        exact ⟨h1, pre', x, h2, h3, h4, boxed_own (w.heap.size + 1) 9 (fun (_ : Unit) => Value.string x.2.2) () X Y row h5 hg (fun r e => (hr r e).2), boxed_own (w.heap.size + 2) 31 (fun (_ : Unit) => Value.int .i64 0) () X Y row h6 hg (fun r e => (hr r e).2)⟩) (ownFrom_below (Nat.le_refl _) (by omega)))
      ⟨⟨by simp, bI, bS, bE, bB⟩, hB1⟩
      (fun x a' W => ∃ Bx, w.heap.size + 3 < Bx ∧ W.heap[Bx]? = some (.cells #[.int .i64 x.2.1, .string x.2.2] 80 (0, 0)) ∧ a' = { tmps := #[.pointer (some ⟨bd, 0, none⟩), .int .i64 i, undef, .pointer (some ⟨w.heap.size, 0, none⟩), .pointer (some ⟨w.heap.size + 1, 0, none⟩), .pointer (some ⟨w.heap.size + 1 + 1, 0, none⟩), undef, .pointer (some ⟨Bx, 0, none⟩),
          .pointer (some ⟨bd, 0, none⟩), .int .i64 i, .bool true, .bool false, .pointer (some ⟨bd, 0, none⟩), .pointer (some ⟨bd, 0, none⟩), .pointer (some ⟨bd, 4, none⟩), .slice A s.pend.length c, .func (.func 60) #[] #[.pointer (some ⟨w.heap.size + 3, 0, none⟩)],
          .int .i64 x.1, .agg #[.int .i64 x.2.1, .string x.2.2], undef, undef, undef, undef, undef, undef, undef, undef, undef, undef, undef, undef, undef], defers := [] })
      (fun x a' _ X Y row hs hg hr => by
        obtain ⟨Bx, h1, h2, h3⟩ := hs
        exact ⟨Bx, h1, (hg.block Bx (Array.getElem?_eq_some_iff.1 h2).1 (fun e' => by obtain ⟨o, ho, hc⟩ := (hr Bx e'.symm).2; rw [h2] at ho; cases ho; cases hc)).trans h2, h3⟩)
      ?assign ?body ?done ?stop
    case assign =>
      rintro l pre x W K ⟨⟨hne, bI1, bS1, bE1, bB1⟩, hB1⟩ hK
      gi_wp2
      exact hK _ _ ((KeepsOthers.alloc _ _).from _) ((Below.refl _ W).alloc bB1.lt _) ⟨⟨hne, bI1.alloc _, bS1.alloc _, bE1.alloc _, bB1.alloc _⟩, hB1.alloc hB1.size _⟩ ⟨W.heap.size, bB1.lt, World.alloc_heap_new W _, rfl⟩
    case body =>
      rintro l pre x a' W hl ⟨r, hr⟩ ⟨⟨hne, bI1, bS1, bE1, bB1⟩, hB1⟩ ⟨Bx, hBx, bX, rfl⟩ hlt
      have cX0 : W.cell? ⟨Bx, 0, none⟩ = some (.int .i64 x.2.1) := by rw [Dk.cell_of bX]; rfl
      have cX1 : W.cell? ⟨Bx, 1, none⟩ = some (.string x.2.2) := by rw [Dk.cell_of bX]; rfl
      have cI := bI1.cell
      have cS := bS1.cell
      have cE := bE1.cell
      have fS := bS1.frozen
      have fE := bE1.frozen
      by_cases he : x.2.1 = i
      · gi_wp2
        exact ⟨((KeepsOthers.setCell _ _ _).trans (KeepsOthers.setCell _ _ _)).from _, ⟨rfl, pre, x, rfl, hne, he, (bS1.set _).other (by omega) _, (bE1.other (by omega) _).set _⟩, (hB1.setCell (p := ⟨w.heap.size + 1, 0, none⟩) (by simp) _).setCell (p := ⟨w.heap.size + 2, 0, none⟩) (by simp) _⟩
      · gi_wp2
        exact ⟨KeepsFrom.refl _ _, Below.refl _ _, ⟨fun y hy => by simp at hy; rcases hy with hy | rfl; exact hne y hy; exact he, bI1, bS1, bE1, bB1⟩, hB1⟩
    case done =>
      rintro D ys W hD rfl ⟨⟨hne, bI1, bS1, bE1, bB1⟩, hB2⟩ hK
      have cI := bI1.cell
      have cS := bS1.cell
      have cE := bE1.cell
      have fS := bS1.frozen
      have fE := bE1.frozen
      have hbd : W.heap[bd]? = some (Dk.blk s.lim.isSome l s.n bm (.slice A s.pend.length c)) := (hB2.block bd hlt).trans h1.out
      have hmW : MapOf W.drew 3 bm s.cnt (fun i => (s.held i).map Dk.enc) := MapOf.keep (w' := W.drew) hm (hB2.block bm hm.lt)
      have hv : ∃ a, ((s.held i).map Dk.enc).getD (.agg #[.int .i64 0, .string ⟨#[]⟩]) = .agg #[.int .i64 a, .string (Dk.at_ s i)] := by
        unfold Dk.at_
        rw [Dk.puts_none s.held s.pend i s.pend.length (Nat.le_refl _) hne, Nat.sub_self, List.take_zero, Dk.puts, List.foldl_nil]
        cases s.held i <;> exact ⟨_, rfl⟩
      obtain ⟨a0, hv⟩ := hv
      have hlk : (Instr.lookup 75 (.map (some bm)) (.int .i64 i) false).run Tryz.prog W.drew = .ok (.agg #[.int .i64 a0, .string (Dk.at_ s i)]) W.drew := by
        rw [hmW.look (t := 75) (z := .agg #[.int .i64 0, .string ⟨#[]⟩]) Tryz.underlying3 Tryz.underlying75 rfl false i hi]
        simp only [Bool.false_eq_true, if_false, hv]
      have hfl : ∀ (a : Int) (t : ByteArray) (w : World), (Instr.field 80 (.agg #[.int .i64 a, .string t]) 1).run Tryz.prog w = .ok (.string t) w := fun _ _ _ => rfl
      have c3 : W.cell? ⟨bd, 3, none⟩ = some (.map (some bm)) := by rw [Dk.cell_of hbd]; rfl
      clear hne hv hmW
      gi_wp2
      refine wpIn_wide.2 ?_
      refine wp_region_quiet_tail 6 (by kernel_rfl) (by kernel_rfl) ?_
      simp only [List.take_succ_cons, List.take_zero, List.drop_succ_cons, List.drop_zero]
      repeat (go_big_quiet_step (fail))
      refine wpQuiet_nil ?_
      go_wp2
      gi_wp2
      have hK1 := (KeepsOthers.setCell W ⟨w.heap.size + 1, 0, none⟩ (.string (Dk.at_ s i))).same D _ hK rfl
      have hK2 : ((W.setCell ⟨w.heap.size + 1, 0, none⟩ (.string (Dk.at_ s i))).setCell ⟨w.heap.size + 2, 0, none⟩ (.int .i64 0)).drew.heap[D]? = some (.deferred (some [])) := (KeepsOthers.setCell _ ⟨w.heap.size + 2, 0, none⟩ (.int .i64 0)).same D _ hK1 rfl
      have b4 := (bS1.set (.string (Dk.at_ s i))).other (B' := w.heap.size + 2) (by omega) (.int .i64 0)
      have b5 := (bE1.other (B' := w.heap.size + 1) (by omega) (.string (Dk.at_ s i))).set (.int .i64 0)
      refine ⟨by simp, .inl ⟨_, _, rfl, run_takeDeferred hK2, ?_⟩⟩
      have hc4 := cell_kept (W := ((W.setCell ⟨w.heap.size + 1, 0, none⟩ (.string (Dk.at_ s i))).setCell ⟨w.heap.size + 2, 0, none⟩ (.int .i64 0)).drew) b4.cell (grownBy_putObj' _ D (.deferred none)) (fun r e => by cases e; exact ⟨_, hK2, rfl⟩)
      have hc5 := cell_kept (W := ((W.setCell ⟨w.heap.size + 1, 0, none⟩ (.string (Dk.at_ s i))).setCell ⟨w.heap.size + 2, 0, none⟩ (.int .i64 0)).drew) b5.cell (grownBy_putObj' _ D (.deferred none)) (fun r e => by cases e; exact ⟨_, hK2, rfl⟩)
      refine ⟨.tuple #[.string (Dk.at_ s i), .int .i64 0], ?_, rfl, ?_⟩
      · simp [results, Tryz.f38, go_sem, hc4, hc5]
      · exact (below_drewN ((hB2.setCell (p := ⟨w.heap.size + 1, 0, none⟩) (by simp) (.string (Dk.at_ s i))).setCell (p := ⟨w.heap.size + 2, 0, none⟩) (by simp) (.int .i64 0)) 1).trans (belowK_b (w := w) (Nat.le_refl _) _ D _ _ (by omega) hK2 rfl rfl)
    case stop =>
      rintro D c pre W hD ⟨k, hk, rfl⟩ ⟨⟨rfl, pre', x, h2, h3, h4, h5, h6⟩, hB2⟩ hK
      gi_wp2
      refine ⟨by simp, .inl ⟨_, _, rfl, run_takeDeferred hK, ?_⟩⟩
      have hc4 := cell_kept h5.cell (grownBy_putObj' _ D (.deferred none)) (fun r e => by cases e; exact ⟨_, hK, rfl⟩)
      have hc5 := cell_kept h6.cell (grownBy_putObj' _ D (.deferred none)) (fun r e => by cases e; exact ⟨_, hK, rfl⟩)
      refine ⟨.tuple #[.string x.2.2, .int .i64 0], ?_, ?_, ?_⟩
      · simp [results, Tryz.f38, go_sem, hc4, hc5]
      · have hk0 : 0 < k := by
          have := congrArg List.length h2
          rw [Dk.upto_length] at this
          simp at this
          omega
        rw [show k = (k - 1) + 1 by omega, Dk.upto_succ] at h2
        obtain ⟨e1, e2⟩ := List.append_inj' h2 rfl
        subst e1
        injection e2 with e2 _
        subst e2
        rw [Dk.at_, Dk.puts_some s.held s.pend i (k - 1) (by omega) h3 h4]
      · exact hB2.trans (belowK_b (w := w) (Nat.le_refl _) W D _ _ (by omega) hK rfl rfl)
  · have hh' : Dk.has s i = false := by simpa using hh
    have HR : Hid (Dk.read s i = (⟨#[]⟩, 1)) := by simp [Hid, Dk.read, hh']
    rw [HR.out]
    have hB0 : Below w.heap.size w (((w.alloc (.cells #[.int .i64 i] 3)).alloc (.cells #[.string ⟨#[]⟩] 9)).alloc (.cells #[.int .i64 0] 31)) := (((Below.refl _ w).alloc (Nat.le_refl _) _).alloc (by simp) _).alloc (by simp; omega) _
    have kd := (hB0.block bd (lt_of_block h1)).trans h1
    clear h1 h2 hm ho
    refine (callsIn_wide (n := 6)).1 ?_
    refine callsIn_of_wp_marks Tryz.func38 rfl trivial ?_ rfl
    simp only [Tryz.ntmps38, List.size_toArray, List.length_cons, List.length_nil, Nat.reduceAdd, Nat.reduceSub, Array.replicate_succ, Array.replicate_zero, List.push_toArray, List.append_toArray, List.nil_append, List.cons_append]
    gi_wp2_with (refine ⟨trivial, ?_⟩; gi_at_call 47; refine (callsIn_wide.2 (has_at false _ _ _ _ _ _ _ _ kd hh')).mono ?_; rintro e w' ⟨rfl, rfl⟩)
    have b4 := (Boxed.new (w.alloc (.cells #[.int .i64 i] 3)) 9 (.string ⟨#[]⟩)).alloc (.cells #[.int .i64 1] 31)
    have b5 := Boxed.new ((w.alloc (.cells #[.int .i64 i] 3)).alloc (.cells #[.string ⟨#[]⟩] 9)) 31 (.int .i64 1)
    simp only [World.size_alloc] at b4 b5
    have hc4 := b4.cell
    have hc5 := b5.cell
    refine ⟨.tuple #[.string ⟨#[]⟩, .int .i64 1], ?_, rfl, (((Below.refl _ w).alloc (Nat.le_refl _) _).alloc (by simp) _).alloc (by simp; omega) _⟩
    simp [results, Tryz.f38, go_sem, hc4, hc5]
end Go.Proofs.YtkoegbjnhoecoaaGreatDoor
