/- The walks of stetref16's Join, Small, Split; stetref02.Words. -/
import Derived.Test.YtmnekomoiffebaaDoorRows
import Derived.Test.YtmnekomoiffebaaDoorKit
import Derived.Test.YtmnekomoiffebaaDoorStr
import Derived.Test.YtmnekomoiffebaaDoorShelf
import Derived.Test.YtmnekomoiffebaaDoorNmW1
import Derived.Test.YtmnekomoiffebaaDoorNmW2
import Derived.Test.YtmnekomoiffebaaDoorNmW3
import Derived.Test.YtmnekomoiffebaaDoorNmW4
import Derived.Test.YtmnekomoiffebaaDoorNmW5
import Derived.Test.YtmnekomoiffebaaDoorNmW6
import Derived.Test.YtmnekomoiffebaaDoorNmW7
import Derived.Test.YtmnekomoiffebaaDoorNmR1
import Derived.Test.YtmnekomoiffebaaDoorApp1b
namespace Go.Proofs.YtmnekomoiffebaaDoor
open Go.RowKit Go.Lib Go.Sort Tx

theorem join_step (l : List Bs) (k : Nat) (h : k < l.length) : Tx.join (l.take (k + 1)) = (if k = 0 then [] else Tx.join (l.take k) ++ [32]) ++ l[k] := by
  rw [List.take_succ_eq_append_getElem h]
  by_cases h0 : k = 0
  · subst h0
    simp [Tx.join_one]
  · rw [if_neg h0, join_snoc _ _ (by rw [ne_eq, List.take_eq_nil_iff]; rintro (h1 | rfl); exact h0 h1; simp at h)]
    simp

set_option maxHeartbeats 1000000 in
theorem rJoin_any (v : Value) (l : List Bs) (w : World) (h : Row vs w w.heap.size v l) (hn : l.length < 100000) (hs : (l.map List.length).sum < 100000) :
    Calls Tryd.prog 28 #[v] w fun e w' => e = .returned (vs (Tx.join l)) ∧ w = w' := by
  obtain ⟨A, cap, rfl, h1, h2, h3⟩ := h.shape
  have H3 := Lib.hid h3
  clear h h3
  go_enter Tryd.func28, Tryd.ntmps28
  go_wp2_with fail
  go_loop [3, 4] (fun t i => ∃ k : Nat, k ≤ l.length ∧ i = .int .i64 k ∧ t = .string (bs (Tx.join (l.take k)))) (fun _ i => l.length - (intOf i).toNat)
  case atStart => exact ⟨0, Nat.zero_le _, rfl, rfl⟩
  case round =>
    obtain ⟨k, hk, rfl, rfl⟩ := hrel
    have hj := join_take l k
    have hsz : (bs (Tx.join (l.take k))).size < 200000 := by rw [bs_size]; omega
    by_cases hlt : k < l.length
    · obtain ⟨b, off, rfl, hb, hc⟩ := H3.out (by rintro rfl; simp at hlt)
      have hck := hc k hlt
      have HJ := Lib.hid (join_step l k hlt)
      have hx : (k : Int) < (l.length : Int) := by omega
      have hxl : (bs l[k]).size < 100000 := by
        rw [bs_size]
        have := le_sum (List.mem_map.2 ⟨l[k], List.getElem_mem hlt, rfl⟩ : l[k].length ∈ l.map List.length)
        omega
      clear hc
      generalize l[k] = x at *
      by_cases h0 : k = 0
      · subst h0
        rw [Nat.add_zero] at hck
        have hz0 : (bs (Tx.join [])).size + (bs x).size ≤ 9223372036854775807 := by rw [bs_size, Tx.join_nil]; simp; omega
        go_wp2_with fail
        go_round
        case rel => exact ⟨0 + 1, by omega, by go_num, by rw [HJ.out, bs_append]; rfl⟩
        case measure => simp [intOf]; omega
      · have hk0 : (0 : Int) < (k : Int) := by omega
        have hz1 : (bs (Tx.join (l.take k))).size + (⟨#[32]⟩ : ByteArray).size ≤ 9223372036854775807 := by have : (⟨#[32]⟩ : ByteArray).size = 1 := rfl; omega
        have hz2 : (bs (Tx.join (l.take k)) ++ (⟨#[32]⟩ : ByteArray)).size + (bs x).size ≤ 9223372036854775807 := by have : (⟨#[32]⟩ : ByteArray).size = 1 := rfl; rw [ByteArray.size_append]; omega
        go_wp2_with fail
        go_round
        case rel => exact ⟨k + 1, by omega, by go_num, by rw [HJ.out, if_neg h0, show (⟨#[32]⟩ : ByteArray) = bs [32] from rfl, bs_append, bs_append]⟩
        case measure => simp [intOf]; omega
    · obtain rfl : k = l.length := by omega
      go_wp2_with fail
      go_ret
      exact ⟨rfl, rfl⟩

set_option maxHeartbeats 400000 in
theorem rSmall_any (x : Bs) (w : World) : Calls Tryd.prog 41 #[.string (bs x)] w fun e w' => e = .returned (.bool (sm x)) ∧ w = w' := by
  cases x with
  | nil =>
    go_enter Tryd.func41, Tryd.ntmps41
    go_wp2
    go_ret
    exact ⟨rfl, rfl⟩
  | cons c r =>
    have hs' : (bs (c :: r)).size = r.length + 1 := by rw [bs_size]; rfl
    have h0 : ((bs (c :: r))[0]'(by omega)) = c := by rfl
    go_enter Tryd.func41, Tryd.ntmps41
    go_wp2
    all_goals go_ret
    · exact ⟨ret_bool (sm_yes ‹_›), rfl⟩
    · exact ⟨ret_bool (sm_no ‹_›), rfl⟩

namespace Tx
theorem foldA_take (l : List Bs) (k : Nat) (h : k < l.length) (s : List Bs × List Bs) : (l.take (k + 1)).foldl stA s = stA ((l.take k).foldl stA s) l[k] := by
  rw [List.take_succ_eq_append_getElem h, List.foldl_append]
  rfl
/-- What the fold holds is no more than what it was given. -/
theorem foldA_len (l : List Bs) : (l.foldl stA ([], [])).1.length + (l.foldl stA ([], [])).2.length ≤ l.length ∧ (((l.foldl stA ([], [])).2).map List.length).sum ≤ (l.map List.length).sum := by
  induction l using snoc_ind with
  | nil => simp
  | snoc l a ih =>
    rw [List.foldl_append]
    simp only [List.foldl_cons, List.foldl_nil, stA]
    split
    · split <;> simp <;> omega
    · simp; omega
end Tx

/-- Two rows lie in blocks apart. -/
def Apart (a b : Value) : Prop := ∀ k, a.ownBlock = some k → b.ownBlock ≠ some k
theorem Apart.symm {a b : Value} (h : Apart a b) : Apart b a := fun k hk h2 => h k h2 hk
theorem Apart.app {v v' b : Value} {n : Nat} (h : Apart v b) (hv : ∀ k, v'.ownBlock = some k → v.ownBlock = some k ∨ n ≤ k) (hb : ∀ k, b.ownBlock = some k → k < n) : Apart v' b := fun k hk h2 => by
  rcases hv k hk with h3 | h3
  · exact h k h3 h2
  · have := hb k h2; omega
theorem Txs.lt {base : Nat} {w : World} {v : Value} {l : List Bs} (h : Txs base w v l) : ∀ k, v.ownBlock = some k → k < w.heap.size := fun k hk =>
  (World.ownsRow.lt (show w.ownsRow base 9 1 v l.length (l.map vs) from h) k hk).2
theorem Txs.other {base : Nat} {w w' : World} {v b : Value} {l : List Bs} (h : Txs base w v l) (hg : w.grownBy w' b.ownBlock) (ha : Apart v b) : Txs base w' v l :=
  own_heap h fun k hk => hg.block k (h.lt k hk) (fun e => ha k hk e.symm)
/-- 'out = append(out, x)', beside other rows. -/
theorem app_textb {w0 : World} {ops : Array Oper} {rest : List Oper} {o : Oper} {a : Act} {Q : Exit → Act → World → Prop} (hgd : o.guard = none) (s x : Operand)
    (ho : o.op = .call { callee := .builtin .append, args := #[s, x], argTypes := #[23, 23] })
    (base : Nat) (v : Value) (l : List Bs) (u : Bs) (hs : a.eval s = v) (g : Nat) (hge : g = w0.heap.size) (hx : a.eval x = .slice (some ⟨g, 0, none⟩) 1 1)
    (hown : Txs base w0 v l) (hb : base ≤ w0.heap.size) (hl : l.length < 1000000)
    (h : ∀ v' w', Txs base w' v' (l ++ [u]) → w0.grownBy w' v.ownBlock → (∀ k, v'.ownBlock = some k → v.ownBlock = some k ∨ w0.heap.size ≤ k) → Below base w0 w' → wpList Tryd.prog ops Q rest (a.put o.dst v') w') :
    wpList Tryd.prog ops Q (o :: rest) a (w0.alloc (.cells #[.string (bs u)] 9)) := by
  obtain ⟨i0, hi0, hz0, hz1, hz2⟩ := info_parts strInfo
  refine wpList_app1b hgd s x 23 ho base 9 i0 _ 16 Tryd.underlying23 hi0 hz0 hz1 hz2 rfl v l.length (l.map vs) (vs u) rfl hs g hge hx hown hb (by simp only [maxLen]; omega) (by omega) ?_
  intro v' w' h1 h2 h3
  refine h v' w' (by simpa [Txs] using h1) h2 h3 ⟨h2.os, h2.tape, h2.output, h2.size, fun k hk => h2.block k (Nat.lt_of_lt_of_le hk hb) (fun e => ?_)⟩
  have := (World.ownsRow.lt (show w0.ownsRow base 9 1 v l.length (l.map vs) from hown) k e.symm).1
  omega

theorem made_txs (base : Nat) (w : World) (h : base ≤ w.heap.size) : Txs base (w.alloc (.cells #[] 9)) (.slice (some ⟨w.heap.size, 0, none⟩) 0 0) [] :=
  World.ownsRow_made w #[] 0 h (by decide) (e := 9) (size := 1) rfl

theorem same_row {w : World} {base : Nat} {v : Value} {l m : List Bs} (h : Txs base w v l) (e : l = m) : Txs base w v m := e ▸ h

set_option maxHeartbeats 2000000 in
theorem rSplit_any (s : ByteArray) (w : World) (hs : s.size < 50000) :
    Calls Tryd.prog 13 #[.string s] w fun e w' => ∃ v, e = .returned v ∧ Txs w.heap.size w' v (splitN (words s.data.toList)) ∧ Below w.heap.size w w' := by
  obtain ⟨T, hT⟩ : ∃ T, T = splitN (words s.data.toList) := ⟨_, rfl⟩
  have h1 := words_length s.data.toList
  have h2 := words_sum s.data.toList
  rw [size_list] at h1 h2
  rw [← hT]
  have HT := Lib.hid hT
  clear hT
  go_enter Tryd.func13, Tryd.ntmps13
  go_wp2_with fail
  refine (rWords_any s _ (by omega)).mono ?_
  rintro e w1 ⟨v, rfl, hr, hb⟩
  generalize words s.data.toList = ws at *
  have hz := hb.size
  simp only [World.size_alloc] at hz
  have hout : Txs w.heap.size w1 (.slice (some ⟨w.heap.size, 0, none⟩) 0 0) [] := ((made_txs w.heap.size w (Nat.le_refl _)).below ((Below.refl _ _).alloc (Nat.le_refl _) _)).below hb
  have hone : Txs w.heap.size w1 (.slice (some ⟨w.heap.size + 1, 0, none⟩) 0 0) [] := by
    have := made_txs w.heap.size (w.alloc (.cells #[] 9)) (by simp)
    rw [World.size_alloc] at this
    exact this.below hb
  have hrl : ∀ k, v.ownBlock = some k → w.heap.size + 2 ≤ k := fun k hk => by
    have := (World.ownsRow.lt (show w1.ownsRow _ 9 1 v ws.length (ws.map vs) from hr) k hk).1
    simpa using this
  have hbw : Below w.heap.size w w1 := (((Below.refl _ _).alloc (Nat.le_refl _) _).alloc (by simp) _).trans (hb.mono (by simp; omega))
  have hr' : Txs w.heap.size w1 v ws := ⟨hr.1, by
    rcases hr.2 with h | ⟨g, cap, cur, rfl, hbg, rest⟩
    · exact .inl h
    · exact .inr ⟨g, cap, cur, rfl, by simp at hbg; omega, rest⟩⟩
  go_wp2_with (at_builtin; refine app_textb rfl (.tmp 11) (.tmp 12) rfl w.heap.size _ _ andW rfl _ rfl rfl hr' (by omega) (by omega) ?_; intro V w2 h8 h9 h10 h11)
  have e1 : Apart (.slice (some ⟨w.heap.size, 0, none⟩) 0 0) (.slice (some ⟨w.heap.size + 1, 0, none⟩) 0 0) := fun k hk h2 => by
    simp [Value.ownBlock] at hk h2; omega
  have e2 : Apart V (.slice (some ⟨w.heap.size, 0, none⟩) 0 0) := fun k hk h2 => by
    simp [Value.ownBlock] at h2
    rcases h10 k hk with h | h
    · have := hrl k h; omega
    · omega
  have e3 : Apart V (.slice (some ⟨w.heap.size + 1, 0, none⟩) 0 0) := fun k hk h2 => by
    simp [Value.ownBlock] at h2
    rcases h10 k hk with h | h
    · have := hrl k h; omega
    · omega
  have e4 : Apart (.slice (some ⟨w.heap.size, 0, none⟩) 0 0) v := fun k hk h2 => by
    have := hrl k h2
    simp [Value.ownBlock] at hk; omega
  have e5 : Apart (.slice (some ⟨w.heap.size + 1, 0, none⟩) 0 0) v := fun k hk h2 => by
    have := hrl k h2
    simp [Value.ownBlock] at hk; omega
  have hout2 := hout.other h9 e4
  have hone2 := hone.other h9 e5
  have hbw2 : Below w.heap.size w w2 := hbw.trans h11
  have hL : (ws ++ [andW]).length < 100000 := by simp; omega
  have hLS : ((ws ++ [andW]).map List.length).sum < 100000 := by simp [andW]; omega
  have HFIN : Hid (((ws ++ [andW]).foldl stA ([], [])).1 = T) := by
    show _ = _
    rw [HT.out, List.foldl_append]
    simp [Tx.splitN, finA, stA]
  generalize ws ++ [andW] = L at *
  clear hr hr' h9 h10 h11 hrl hout hone hb hbw e4 e5
  obtain ⟨LA, lc, rfl, l1, l2, l3⟩ := h8.row.shape
  clear l3
  go_loopw [3, 4, 6] (fun o p i wr => ∃ (k : Nat) (ys os : List Bs), k ≤ L.length ∧ i = .int .i64 k ∧ (L.take k).foldl stA ([], []) = (ys, os) ∧ Txs w.heap.size wr o ys ∧ Txs w.heap.size wr p os ∧ Txs w.heap.size wr (.slice LA L.length lc) L ∧ Apart o p ∧ Apart (.slice LA L.length lc) o ∧ Apart (.slice LA L.length lc) p ∧ Below w.heap.size w wr) (fun _ _ i _ => L.length - (intOf i).toNat)
  case atStart => exact ⟨0, [], [], Nat.zero_le _, rfl, rfl, hout2, hone2, h8, e1, e2, e3, hbw2⟩
  case round =>
    obtain ⟨k, ys, os, hk, rfl, hf, ho, hp, hv, a1, a2, a3, hbel⟩ := hrel
    have hsz := hbel.size
    have hfl := foldA_len (L.take k)
    rw [hf] at hfl
    simp only at hfl
    have htl : (L.take k).length ≤ L.length := by simp; omega
    have hts := (sum_take L k).1
    clear hout2 hone2 h8 e1 e2 e3 hbw2
    by_cases hlt : k < L.length
    · have hne : L ≠ [] := by rintro rfl; simp at hlt
      obtain ⟨g, cap, he, g1, g2, g3, g4, g5⟩ := hv.shape hne
      injection he with hg1 _ hg2
      subst hg1; subst hg2
      have hck := (g5 k hlt).1
      have hx : (k : Int) < (L.length : Int) := by omega
      have HF := Lib.hid (foldA_take L k hlt ([], []))
      rw [hf] at HF
      clear g5 hf
      generalize L[k] = x at *
      by_cases hxa : x = andW
      · have hnx : ((bs x).toList == [97, 110, 100]) = true := by rw [toList_bs, hxa]; rfl
        have HXA := Lib.hid hxa
        clear hxa
        by_cases hos : os = []
        · have HF2 : Hid ((L.take (k + 1)).foldl stA ([], []) = (ys, [])) := by
            show _ = _
            rw [HF.out, stA, if_pos HXA.out, hos]; rfl
          subst hos
          obtain ⟨PA, pc, rfl, _, _, _⟩ := hp.row.shape
          have hnew := made_txs w.heap.size wr hsz
          have b1 : Apart u3 (.slice (some ⟨wr.heap.size, 0, none⟩) 0 0) := fun k hk h2 => by
            simp [Value.ownBlock] at h2; have := ho.lt k hk; omega
          have b2 : Apart (.slice (some ⟨g, 0, none⟩) L.length lc) (.slice (some ⟨wr.heap.size, 0, none⟩) 0 0) := fun k hk h2 => by
            simp [Value.ownBlock] at h2; have := hv.lt k hk; omega
          have ho' := ho.below ((Below.refl _ _).alloc (Nat.le_refl _) (.cells #[] 9))
          have hv' := hv.below ((Below.refl _ _).alloc (Nat.le_refl _) (.cells #[] 9))
          go_wp2_with fail
          go_roundw
          case rel => exact ⟨k + 1, ys, [], by omega, by go_num, HF2.out, ho', hnew, hv', b1, a2, b2, hbel.alloc hsz _⟩
          case measure => simp [intOf]; omega
        · have HF2 : Hid ((L.take (k + 1)).foldl stA ([], []) = (ys ++ [Tx.join os], [])) := by
            show _ = _
            rw [HF.out, stA, if_pos HXA.out, if_neg hos]
          have hpl := List.length_pos_iff.2 hos
          have hjo := join_length os
          obtain ⟨PA, pc, rfl, _, _, _⟩ := hp.row.shape
          have HROW := Lib.hid hp.row
          have hpi : (0 : Int) < (os.length : Int) := by omega
          clear hos hp
          go_wp2_with (first
            | (go_at_call 28; refine (rJoin_any _ os _ HROW.out (by omega) (by omega)).mono ?_; rintro e w5 ⟨rfl, rfl⟩)
            | (at_builtin; refine app_textb rfl (.tmp 35) (.tmp 38) rfl w.heap.size _ _ (Tx.join os) rfl _ rfl rfl ho hsz (by omega) ?_; intro o' w6 h8 h9 h10 h11))
          have hv6 := hv.other h9 a2
          have hnew := made_txs w.heap.size w6 (Nat.le_trans hsz h11.size)
          have b1 : Apart o' (.slice (some ⟨w6.heap.size, 0, none⟩) 0 0) := fun k hk h2 => by
            simp [Value.ownBlock] at h2; have := h8.lt k hk; omega
          have b2 : Apart (.slice (some ⟨g, 0, none⟩) L.length lc) (.slice (some ⟨w6.heap.size, 0, none⟩) 0 0) := fun k hk h2 => by
            simp [Value.ownBlock] at h2; have := hv6.lt k hk; omega
          have b3 : Apart (.slice (some ⟨g, 0, none⟩) L.length lc) o' := (a2.symm.app h10 hv.lt).symm
          have ho' := h8.below ((Below.refl _ _).alloc (Nat.le_refl _) (.cells #[] 9))
          have hv' := hv6.below ((Below.refl _ _).alloc (Nat.le_refl _) (.cells #[] 9))
          go_roundw
          case rel => exact ⟨k + 1, _, [], by omega, by go_num, HF2.out, ho', hnew, hv', b1, b3, b2, (hbel.trans h11).alloc (Nat.le_trans hsz h11.size) _⟩
          case measure => simp [intOf]; omega
      · have hnx : ((bs x).toList == [97, 110, 100]) = false := by
          rw [toList_bs]
          exact beq_eq_false_iff_ne.2 hxa
        have HF2 : Hid ((L.take (k + 1)).foldl stA ([], []) = (ys, os ++ [x])) := by
          show _ = _
          rw [HF.out, stA, if_neg hxa]
        clear hxa
        go_wp2_with (at_builtin; refine app_textb rfl (.tmp 25) (.tmp 30) rfl w.heap.size _ _ x rfl _ rfl rfl hp hsz (by omega) ?_; intro p' w6 h8 h9 h10 h11)
        have hv6 := hv.other h9 a3
        have ho6 := ho.other h9 a1
        have b1 : Apart u3 p' := (a1.symm.app h10 ho.lt).symm
        have b3 : Apart (.slice (some ⟨g, 0, none⟩) L.length lc) p' := (a3.symm.app h10 hv.lt).symm
        go_roundw
        case rel => exact ⟨k + 1, ys, _, by omega, by go_num, HF2.out, ho6, h8, hv6, b1, a2, b3, hbel.trans h11⟩
        case measure => simp [intOf]; omega
    · obtain rfl : k = L.length := by omega
      have HF : Hid (ys = T) := by
        show _ = _
        rw [← HFIN.out]
        rw [List.take_length] at hf
        rw [hf]
      clear hf
      go_wp2_with fail
      go_ret
      exact ⟨_, rfl, same_row ho HF.out, hbel⟩
end Go.Proofs.YtmnekomoiffebaaDoor
