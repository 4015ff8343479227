/- The walk of stetref16.Short. -/
import Derived.Test.YtmnekomoiffebaaDoorRows
import Derived.Test.YtmnekomoiffebaaDoorKit
import Derived.Test.YtmnekomoiffebaaDoorStr
import Derived.Test.YtmnekomoiffebaaDoorShelf
import Derived.Test.YtmnekomoiffebaaDoorNmW1
import Derived.Test.YtmnekomoiffebaaDoorNmW2
import Derived.Test.YtmnekomoiffebaaDoorNmW3
import Derived.Test.YtmnekomoiffebaaDoorNmW4
import Derived.Test.YtmnekomoiffebaaDoorNmW7
import Derived.Test.YtmnekomoiffebaaDoorNmR1
import Derived.Test.YtmnekomoiffebaaDoorNmR3
import Derived.Test.YtmnekomoiffebaaDoorNmS1
import Derived.Test.YtmnekomoiffebaaDoorNmS2
import Derived.Test.YtmnekomoiffebaaDoorNmS5
namespace Go.Proofs.YtmnekomoiffebaaDoor
open Go.RowKit Go.Lib Go.Sort Tx

theorem ne_step (l : List Bs) (k : Nat) (h : k < l.length) : ne (l.take (k + 1)) = ne (l.take k) ++ (if l[k] = [] then [] else [l[k]]) := by
  rw [List.take_succ_eq_append_getElem h, ne_append, ne_one]
theorem Txs.low {base : Nat} {w : World} {v : Value} {l : List Bs} (h : Txs base w v l) : ∀ k, v.ownBlock = some k → base ≤ k := fun k hk =>
  (World.ownsRow.lt (show w.ownsRow base 9 1 v l.length (l.map vs) from h) k hk).1

set_option maxHeartbeats 4000000 in
theorem rShort_any (p : P4) (w : World) (hp : Sm p 10000) :
    Calls Tryd.prog 22 #[pv p] w fun e w' => e = .returned (vs (shortS p)) ∧ Below w.heap.size w w' := by
  have HR : Hid (shortS p = Tx.join ((words p.first).map ini ++ ne [p.von, p.last, p.jr])) := Lib.hid rfl
  obtain ⟨f, v, l, j⟩ := p
  obtain ⟨h1, h2, h3, h4⟩ := hp
  simp only at h1 h2 h3 h4 HR
  have zf : (bs f).size < 10000 := by rw [bs_size]; exact h1
  obtain ⟨q1, q2, q3, q4⟩ := words_lens f
  have hsum := ini_sum (words f) q4
  have Q4 := Lib.hid q4
  clear q4
  go_enter Tryd.func22, Tryd.ntmps22
  go_wp2_with fail
  refine (rWords_any (bs f) _ (by omega)).mono ?_
  rintro e w2 ⟨v2, rfl, hr, hb⟩
  rw [bs_list] at hr
  generalize words f = ws at *
  have hz := hb.size
  simp only [World.size_alloc] at hz
  have e2 : w2.heap[w.heap.size]? = some (.cells #[.string (bs f), .string (bs v), .string (bs l), .string (bs j)] 26 (0, 0)) := by
    rw [hb.block _ (by simp; omega), Below.heap_alloc _ _ _ (by simp), heap_alloc_new]
  have hout : Txs (w.heap.size + 1) w2 (.slice (some ⟨w.heap.size + 1, 0, none⟩) 0 0) [] := by
    have := made_txs (w.heap.size + 1) (w.alloc (.cells #[.string (bs f), .string (bs v), .string (bs l), .string (bs j)] 26)) (by simp)
    rw [World.size_alloc] at this
    exact this.below hb
  have hrl : ∀ k, v2.ownBlock = some k → w.heap.size + 2 ≤ k := fun k hk => by have := hr.low k hk; simpa using this
  have hap : Apart (.slice (some ⟨w.heap.size + 1, 0, none⟩) 0 0) v2 := fun k hk h2 => by
    have := hrl k h2
    simp [Value.ownBlock] at hk; omega
  have hr' : Txs (w.heap.size + 1) w2 v2 ws := hr.mono (by simp)
  have hbw : Below w.heap.size w w2 := (((Below.refl _ _).alloc (Nat.le_refl _) _).alloc (by simp) _).trans (hb.mono (by simp; omega))
  have E2 := Lib.hid e2
  have HBW := Lib.hid hbw
  have HS := Lib.hid hsum
  have hlt2 := lt_of_block e2
  clear e2 hrl hbw hb hsum hr
  obtain ⟨LA, lc, rfl, l1, l2, l3⟩ := hr'.row.shape
  clear l3
  go_wp2_with fail
  go_loopw [3, 5] (fun o i wr => ∃ k : Nat, k ≤ ws.length ∧ i = .int .i64 k ∧ Txs (w.heap.size + 1) wr o ((ws.map ini).take k) ∧ Txs (w.heap.size + 1) wr (.slice LA ws.length lc) ws ∧ Apart o (.slice LA ws.length lc) ∧ Below (w.heap.size + 1) w2 wr) (fun _ i _ => ws.length - (intOf i).toNat)
  case atStart => exact ⟨0, Nat.zero_le _, rfl, hout, hr', hap, Below.refl _ _⟩
  case round =>
    obtain ⟨k, hk, rfl, ho, hv, ha, hbel⟩ := hrel
    have hsz := hbel.size
    clear hout hr' hap
    by_cases hlt : k < ws.length
    · obtain ⟨g, cap, he, g1, g2, g3, g4, g5⟩ := hv.shape (by rintro rfl; simp at hlt)
      injection he with hg1 _ hg2
      subst hg1; subst hg2
      have hck := (g5 k hlt).1
      have hxne := Q4.out _ (List.getElem_mem hlt)
      have hx : (k : Int) < (ws.length : Int) := by omega
      have HST : Hid ((ws.map ini).take (k + 1) = (ws.map ini).take k ++ [ini ws[k]]) := by
        show _ = _
        rw [List.take_succ_eq_append_getElem (by simpa using hlt), List.getElem_map]
      have hxs : ws[k].length ≤ f.length := by
        have := le_sum (List.mem_map.2 ⟨ws[k], List.getElem_mem hlt, rfl⟩ : ws[k].length ∈ ws.map List.length)
        omega
      have HO := Lib.hid ho
      clear g5 ho
      generalize ws[k] = x at *
      have hx1 : (1 : Int) ≤ ((bs x).size : Int) := by rw [bs_size]; have := List.length_pos_iff.2 hxne; omega
      have hx2 : (bs x).size < 100000 := by rw [bs_size]; omega
      have hx3 := bs_take x 1
      have hx4 := bs_ini x
      have hx5 : (bs (x.take 1)).size < 10 := by rw [bs_size]; simp; omega
      clear hxne hxs
      go_wp2_with (at_builtin; refine app_textb rfl (.tmp 18) (.tmp 25) rfl (w.heap.size + 1) _ _ (ini x) rfl _ rfl rfl HO.out (by omega) (by simp; omega) ?_; intro v' w3 h8 h9 h10 h11)
      have hv3 := hv.other h9 ha.symm
      have ha3 : Apart v' (.slice (some ⟨g, 0, none⟩) ws.length lc) := ha.app h10 hv.lt
      go_roundw
      case rel => exact ⟨k + 1, by omega, by go_num, by rw [HST.out]; exact h8, hv3, ha3, hbel.trans h11⟩
      case measure => simp [intOf]; omega
    · obtain rfl : k = ws.length := by omega
      obtain ⟨wo, hwo⟩ : ∃ wo : World, wo = wr := ⟨_, rfl⟩
      subst hwo
      have e3 := (hbel.block _ (Nat.lt_succ_self _)).trans E2.out
      obtain ⟨f1, f2, f3⟩ := str_cells e3
      rw [List.take_of_length_le (by simp)] at ho
      have hml : (ws.map ini).length < 20000 := by simp; omega
      have hms : ((ws.map ini).map List.length).sum < 40000 := by have := HS.out; omega
      have HB := Lib.hid hbel
      clear e3 hbel hv ha
      generalize ws.map ini = M at *
      obtain ⟨R, hRR⟩ : ∃ R, R = [v, l, j] := ⟨_, rfl⟩
      have hRl : R.length = 3 := by rw [hRR]; rfl
      have hRs : ∀ x ∈ R, x.length < 10000 := by rw [hRR]; intro x hx; simp at hx; rcases hx with rfl | rfl | rfl <;> assumption
      have RL := Lib.hid hRl
      have RS := Lib.hid hRs
      have RE := Lib.hid hRR
      clear hRR hRl hRs
      have hnew : (wo.alloc (.cells #[.string (bs v), .string (bs l), .string (bs j)] 9)).heap[wo.heap.size]? = some (.cells (R.map vs).toArray 9 (0, 0)) := by
        rw [heap_alloc_new, RE.out]; rfl
      have hoo : Txs (w.heap.size + 1) (wo.alloc (.cells #[.string (bs v), .string (bs l), .string (bs j)] 9)) u3 M := ho.below ((Below.refl _ _).alloc (Nat.le_refl _) _)
      have HLT := Lib.hid ho.lt
      have hb0 : Below (w.heap.size + 1) wo (wo.alloc (.cells #[.string (bs v), .string (bs l), .string (bs j)] 9)) := (Below.refl _ _).alloc (by omega) _
      clear ho
      go_wp2_with fail
      have NEW := Lib.hid hnew
      have OO := Lib.hid hoo
      have B0 := Lib.hid hb0
      clear hnew hoo hb0
      go_loopw [3, 7] (fun o i wr => ∃ k : Nat, k ≤ 3 ∧ i = .int .i64 k ∧ Txs (w.heap.size + 1) wr o (M ++ ne (R.take k)) ∧ wr.heap[wo.heap.size]? = some (.cells (R.map vs).toArray 9 (0, 0)) ∧ (∀ b, o.ownBlock = some b → b ≠ wo.heap.size) ∧ Below (w.heap.size + 1) wo wr) (fun _ i _ => 3 - (intOf i).toNat)
      case atStart => exact ⟨0, Nat.zero_le _, rfl, by simpa [ne] using OO.out, NEW.out, fun b hb => Nat.ne_of_lt (HLT.out b hb), B0.out⟩
      case round =>
        obtain ⟨k, hk, rfl, ho, hnb, hap, hbq⟩ := hrel
        have hlq := lt_of_block hnb
        have hszq := hbq.size
        by_cases hlt : k < 3
        · have hkR : k < R.length := by rw [RL.out]; exact hlt
          have hck : wr.cell? ⟨wo.heap.size, k, none⟩ = some (vs R[k]) := by
            rw [cell_of_row _ wo.heap.size k _ 9 (0, 0) hnb]
            simp [hkR]
          have HNE := Lib.hid (ne_step R k hkR)
          have hxs := RS.out _ (List.getElem_mem hkR)
          have hki : (k : Int) < 3 := by omega
          have HO := Lib.hid ho
          have HNB := Lib.hid hnb
          have HAP := Lib.hid hap
          have hnlen : (M ++ ne (R.take k)).length < 200000 := by
            have := ne_length (R.take k)
            have : (R.take k).length ≤ 3 := by simp; omega
            simp; omega
          clear ho hnb hap
          generalize R[k] = x at *
          by_cases hx0 : x = []
          · subst hx0
            have hee : (bs []).toList.isEmpty = true := by rw [emp]; rfl
            go_wp2_with fail
            go_roundw
            case rel => exact ⟨k + 1, by omega, by go_num, by rw [HNE.out, if_pos rfl, List.append_nil]; exact HO.out, HNB.out, HAP.out, hbq⟩
            case measure => simp [intOf]; omega
          · have hee : (bs x).toList.isEmpty = false := by rw [emp]; cases x <;> simp at hx0 ⊢
            have HX := Lib.hid hx0
            clear hx0
            go_wp2_with (at_builtin; refine app_textb rfl (.tmp 43) (.tmp 48) rfl (w.heap.size + 1) _ _ x rfl _ rfl rfl HO.out (by omega) (by omega) ?_; intro v' w3 h8 h9 h10 h11)
            have hnb3 : w3.heap[wo.heap.size]? = some (.cells (R.map vs).toArray 9 (0, 0)) := (h9.block _ hlq (fun e => HAP.out _ e.symm rfl)).trans HNB.out
            have hap3 : ∀ b, v'.ownBlock = some b → b ≠ wo.heap.size := fun b hb => by
              rcases h10 b hb with h | h
              · exact HAP.out b h
              · omega
            go_roundw
            case rel => exact ⟨k + 1, by omega, by go_num, by rw [HNE.out, if_neg HX.out, ← List.append_assoc]; exact h8, hnb3, hap3, hbq.trans h11⟩
            case measure => simp [intOf]; omega
        · obtain rfl : k = 3 := by omega
          have HO : Hid (Txs (w.heap.size + 1) wr u3 (M ++ ne [v, l, j])) := by
            rw [List.take_of_length_le (by rw [RL.out]; exact Nat.le_refl _), RE.out] at ho
            exact Lib.hid ho
          have hn1 := ne_length [v, l, j]
          have hn2 := ne_sum [v, l, j]
          simp at hn1 hn2
          have HBQ := Lib.hid hbq
          clear ho hnb hap hbq
          generalize ne [v, l, j] = N at *
          go_wp2_with fail
          refine (rJoin_any _ (M ++ N) _ HO.out.row (by simp; omega) (by simp at hms ⊢; omega)).mono ?_
          rintro e w9 ⟨rfl, rfl⟩
          go_wp2_with fail
          go_ret
          exact ⟨ret_bs (by rw [HR.out]), HBW.out.trans ((HB.out.trans HBQ.out).mono (Nat.le_succ _))⟩
end Go.Proofs.YtmnekomoiffebaaDoor
