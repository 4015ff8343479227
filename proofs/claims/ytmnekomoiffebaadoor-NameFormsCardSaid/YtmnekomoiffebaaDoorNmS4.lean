/- The walk of stetref16.Key. -/
import Derived.Test.YtmnekomoiffebaaDoorRows
import Derived.Test.YtmnekomoiffebaaDoorKit
import Derived.Test.YtmnekomoiffebaaDoorStr
import Derived.Test.YtmnekomoiffebaaDoorShelf
import Derived.Test.YtmnekomoiffebaaDoorNmW2
import Derived.Test.YtmnekomoiffebaaDoorNmW3
import Derived.Test.YtmnekomoiffebaaDoorNmW7
import Derived.Test.YtmnekomoiffebaaDoorNmR1
import Derived.Test.YtmnekomoiffebaaDoorNmR3
import Derived.Test.YtmnekomoiffebaaDoorNmS1
import Derived.Test.YtmnekomoiffebaaDoorNmS2
import Derived.Test.YtmnekomoiffebaaDoorNmS3
import Derived.Laws.IdiomStrings
namespace Go.Proofs.YtmnekomoiffebaaDoor
open Go.RowKit Go.Lib Go.Sort Tx

/-- 'string([]byte{c})'. -/
theorem one_byte (w : World) (g : Nat) (hg : g = w.heap.size) (z : Int) (c : UInt8) (hz : z = (c.toNat : Int)) : (convert 45 9 (.slice (some ⟨g, 0, none⟩) 1 1)).run Tryd.prog (w.alloc (.cells #[.int .u8 z] 5)) = .ok (.string (bs [c])) (w.alloc (.cells #[.int .u8 z] 5)) := by
  subst hz hg
  exact run_convert_bytes_back (P := Tryd.prog) _ 45 9 5 ⟨w.heap.size, 0, none⟩ 1 [c] Tryd.underlying45 Tryd.underlying5 Tryd.underlying9 (fun j hj => by
    have : j = 0 := by simpa using hj
    subst this
    rw [Addr.add_lit, cell_of_row _ w.heap.size 0 _ 5 (0, 0) (heap_alloc_new w _)]
    rfl)
theorem map_step {α β : Type} (f : α → β) (l : List α) (k : Nat) (h : k < l.length) : (l.map f).take (k + 1) = (l.map f).take k ++ [f l[k]] := by
  rw [List.take_succ_eq_append_getElem (by simpa using h), List.getElem_map]

set_option maxHeartbeats 2000000 in
theorem rKey_any (p : P4) (w : World) (hp : Sm p 10000) :
    Calls Tryd.prog 24 #[pv p] w fun e w' => e = .returned (vs (keyS p)) ∧ Below w.heap.size w w' := by
  obtain ⟨f, v, l, j⟩ := p
  obtain ⟨h1, h2, h3, h4⟩ := hp
  simp only at h1 h2 h3 h4
  have zf : (bs f).size < 10000 := by rw [bs_size]; exact h1
  have zv : (bs v).size < 10000 := by rw [bs_size]; exact h2
  have zl : (bs l).size < 10000 := by rw [bs_size]; exact h3
  have zj : (bs j).size < 10000 := by rw [bs_size]; exact h4
  have HT : Hid ((bs l ++ (⟨#[32]⟩ : ByteArray) ++ bs f ++ (⟨#[32]⟩ : ByteArray) ++ bs v ++ (⟨#[32]⟩ : ByteArray) ++ bs j) = bs (keyT ⟨f, v, l, j⟩)) := by
    show _ = _
    simp only [k32, bs_append, keyT]
  have hkl := keyT_len ⟨f, v, l, j⟩
  simp only at hkl
  obtain ⟨K, hK⟩ : ∃ K, K = keyT ⟨f, v, l, j⟩ := ⟨_, rfl⟩
  obtain ⟨q1, q2, q3, q4⟩ := words_lens K
  have HR : Hid (keyS ⟨f, v, l, j⟩ = (Tx.join (words K)).map lowr) := by show _ = _; rw [hK]; rfl
  rw [← hK] at hkl HT
  have hKs : (bs K).size < 100000 := by rw [bs_size]; omega
  clear hK q4
  go_enter Tryd.func24, Tryd.ntmps24
  go_wp2_with fail
  rw [HT.out]
  refine (rWords_any (bs K) _ hKs).mono ?_
  rintro e w2 ⟨v2, rfl, hr, hb⟩
  rw [bs_list] at hr
  go_wp2_with fail
  refine (rJoin_any v2 (words K) _ hr.row (by omega) (by omega)).mono ?_
  rintro e w3 ⟨rfl, rfl⟩
  have hbel : Below w.heap.size w w2 := ((Below.refl _ _).alloc (Nat.le_refl _) _).trans (hb.mono (by simp))
  clear hb hr HT
  generalize hT : Tx.join (words K) = T at *
  have hTs : (bs T).size = T.length := bs_size T
  clear hT
  go_wp2_with fail
  go_loopw [4, 5] (fun t i wr => ∃ k : Nat, k ≤ T.length ∧ i = .int .i64 k ∧ t = .string (bs ((T.map lowr).take k)) ∧ Below w.heap.size w wr) (fun _ i _ => T.length - (intOf i).toNat)
  case atStart => exact ⟨0, Nat.zero_le _, rfl, rfl, hbel⟩
  case round =>
    obtain ⟨k, hk, rfl, rfl, hbel⟩ := hrel
    have hle := hbel.size
    have hts : (bs ((T.map lowr).take k)).size < 100000 := by rw [bs_size]; simp; omega
    by_cases hlt : k < T.length
    · have hx : (k : Int) < (T.length : Int) := by omega
      have hltb : k < (bs T).size := by omega
      have hxb : (k : Int) < ((bs T).size : Int) := by omega
      have hgb : (bs T)[k]'hltb = T[k] := rfl
      have HS := Lib.hid (map_step lowr T k hlt)
      have HN := Lib.hid (lowr_no T[k])
      have HY := Lib.hid (lowr_yes T[k])
      have hcb : T[k].toNat < 256 := T[k].toNat_lt
      have hob : ∀ z, z = ((lowr T[k]).toNat : Int) → ∀ w : World, _ := fun z hz w => one_byte w _ rfl z _ hz
      have hzs : (bs [lowr T[k]]).size = 1 := rfl
      clear hTs
      generalize hx0 : T[k] = x at *
      clear hx0
      by_cases hin : 65 ≤ x.toNat ∧ x.toNat ≤ 90
      · have HX := Lib.hid (HY.out hin.1 hin.2)
        have i1 : (65 : Int) ≤ (x.toNat : Int) := by omega
        have i2 : (x.toNat : Int) ≤ 90 := by omega
        have hob2 := hob ((x.toNat : Int) + 32) (by rw [HX.out]; omega)
        clear hin hob
        go_wp2_with fail
        go_roundw
        case rel => exact ⟨k + 1, by omega, by go_num, by rw [HS.out, bs_append], hbel.alloc hle _⟩
        case measure => simp [intOf]; omega
      · have HX := Lib.hid (HN.out hin)
        have hob2 := hob (x.toNat : Int) (by rw [HX.out])
        by_cases hin1 : 65 ≤ x.toNat
        · have i1 : (65 : Int) ≤ (x.toNat : Int) := by omega
          have i2 : (90 : Int) < (x.toNat : Int) := by omega
          clear hin hob
          go_wp2_with fail
          go_roundw
          case rel => exact ⟨k + 1, by omega, by go_num, by rw [HS.out, bs_append], hbel.alloc hle _⟩
          case measure => simp [intOf]; omega
        · have i1 : (x.toNat : Int) < 65 := by omega
          clear hin hob
          go_wp2_with fail
          go_roundw
          case rel => exact ⟨k + 1, by omega, by go_num, by rw [HS.out, bs_append], hbel.alloc hle _⟩
          case measure => simp [intOf]; omega
    · obtain rfl : k = T.length := by omega
      rw [List.take_of_length_le (by simp)] at hts ⊢
      clear hTs
      go_wp2_with fail
      go_ret
      exact ⟨by rw [HR.out]; rfl, hbel⟩
end Go.Proofs.YtmnekomoiffebaaDoor
