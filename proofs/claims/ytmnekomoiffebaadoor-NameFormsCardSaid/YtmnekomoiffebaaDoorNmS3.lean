/- The walks of name.Key and stetref16.Key. -/
import Derived.Test.YtmnekomoiffebaaDoorRows
import Derived.Test.YtmnekomoiffebaaDoorKit
import Derived.Test.YtmnekomoiffebaaDoorStr
import Derived.Test.YtmnekomoiffebaaDoorShelf
import Derived.Test.YtmnekomoiffebaaDoorNmW2
import Derived.Test.YtmnekomoiffebaaDoorNmW3
import Derived.Test.YtmnekomoiffebaaDoorNmW7
import Derived.Test.YtmnekomoiffebaaDoorNmR1
import Derived.Test.YtmnekomoiffebaaDoorNmR3
import Derived.Test.YtmnekomoiffebaaDoorNmS1
import Derived.Test.YtmnekomoiffebaaDoorNmS2
import Derived.Laws.IdiomStrings
namespace Go.Proofs.YtmnekomoiffebaaDoor
open Go.RowKit Go.Lib Go.Sort Tx

abbrev by8 (c : UInt8) : Value := .int .u8 (c.toNat : Int)
/-- Block g begins with the bytes l, free to be written. -/
def Cl (w : World) (g : Nat) (l : Bs) : Prop := ∀ j (h : j < l.length), w.cell? ⟨g, j, none⟩ = some (by8 l[j]) ∧ w.frozen? ⟨g, j, none⟩ = false
theorem Cl.set {w : World} {g : Nat} {l : Bs} (h : Cl w g l) (k : Nat) (c : UInt8) (z : Int) (hz : z = (c.toNat : Int)) : Cl (w.setCell ⟨g, k, none⟩ (.int .u8 z)) g (l.set k c) := by
  subst hz
  intro j hj
  have hj' : j < l.length := by simpa using hj
  rw [World.frozen?_setCell]
  refine ⟨?_, (h j hj').2⟩
  by_cases he : j = k
  · subst he
    rw [World.cell?_setCell_same _ _ _ (h j hj').1]
    simp
  · rw [World.cell?_setCell_other _ _ _ _ (fun e => he (by injection e with _ e2; exact e2.symm)), (h j hj').1]
    simp [Ne.symm he]
theorem Cl.drewN {w : World} {g : Nat} {l : Bs} (h : Cl w g l) (n : Nat) : Cl (w.drewN n) g l := h
theorem bytes_laid (w : World) (e : TypeId) (l : Bs) (c : Nat) (_hc : l.length ≤ c) :
    Cl (w.drew.alloc (.cells (bytesRow (bs l) c) e ((bytesRow (bs l) c).size, (bytesRow (bs l) c).size + 1))) w.heap.size l := by
  intro j hj
  have hs : j < (bs l).data.size := by simpa [bs] using hj
  have e1 := World.cell?_alloc_mark w.drew (bytesRow (bs l) c) e ((bytesRow (bs l) c).size, (bytesRow (bs l) c).size + 1) j
  have e2 := World.frozen?_alloc_mark w.drew (bytesRow (bs l) c) e (bytesRow (bs l) c).size ((bytesRow (bs l) c).size + 1) j
  refine ⟨e1.trans ?_, e2.trans ?_⟩
  · rw [bytesRow_at _ _ _ hs]
    simp [bs]
  · have : j < (bytesRow (bs l) c).size := by
      have := bytesRow_at (bs l) c j hs
      exact (Array.getElem?_eq_some_iff.1 this).1
    simp only [Bool.and_eq_false_iff, decide_eq_false_iff_not]
    exact .inl (by omega)

namespace Tx
theorem lowr_yes (c : UInt8) (h1 : 65 ≤ c.toNat) (h2 : c.toNat ≤ 90) : (lowr c).toNat = c.toNat + 32 := by
  unfold lowr
  rw [if_pos ⟨h1, h2⟩, UInt8.toNat_add]
  simp
  omega
theorem lowr_no (c : UInt8) (h : ¬ (65 ≤ c.toNat ∧ c.toNat ≤ 90)) : lowr c = c := by unfold lowr; rw [if_neg h]
/-- The first k bytes made small. -/
def lowTo (l : Bs) (k : Nat) : Bs := (l.take k).map lowr ++ l.drop k
theorem lowTo_zero (l : Bs) : lowTo l 0 = l := rfl
theorem lowTo_all (l : Bs) : lowTo l l.length = l.map lowr := by simp [lowTo]
theorem lowTo_length (l : Bs) (k : Nat) : (lowTo l k).length = l.length := by simp [lowTo]; omega
theorem lowTo_at (l : Bs) (k : Nat) (h : k < l.length) : (lowTo l k)[k]'(by rw [lowTo_length]; exact h) = l[k] := by
  unfold lowTo
  rw [List.getElem_append_right (by simp; omega)]
  simp [Nat.min_eq_left (Nat.le_of_lt h)]
theorem lowTo_step (l : Bs) (k : Nat) (h : k < l.length) : lowTo l (k + 1) = (lowTo l k).set k (lowr l[k]) := by
  unfold lowTo
  rw [List.take_succ_eq_append_getElem h, List.map_append, List.set_append_right _ _ (by simp; omega)]
  simp [Nat.min_eq_left (Nat.le_of_lt h)]
  rw [← List.getElem_cons_drop h]
  rfl
theorem lowTo_same (l : Bs) (k : Nat) (h : k < l.length) (hn : ¬ (65 ≤ l[k].toNat ∧ l[k].toNat ≤ 90)) : lowTo l (k + 1) = lowTo l k := by
  rw [lowTo_step l k h, lowr_no _ hn]
  apply List.ext_getElem?
  intro j
  rw [List.getElem?_set]
  split
  · rename_i e
    subst e
    rw [if_pos (by rw [lowTo_length]; exact h), List.getElem?_eq_getElem (by rw [lowTo_length]; exact h), lowTo_at l k h]
  · rfl
theorem keyT_len (p : P4) : (keyT p).length = p.last.length + p.first.length + p.von.length + p.jr.length + 3 := by simp [keyT]; omega
end Tx

set_option maxHeartbeats 2000000 in
theorem key_any (p : P4) (w : World) (hp : Sm p 10000) :
    Calls Tryd.prog 23 #[pv p] w fun e w' => e = .returned (vs (keyS p)) ∧ Below w.heap.size w w' := by
  obtain ⟨f, v, l, j⟩ := p
  obtain ⟨h1, h2, h3, h4⟩ := hp
  simp only at h1 h2 h3 h4
  have zf : (bs f).size < 10000 := by rw [bs_size]; exact h1
  have zv : (bs v).size < 10000 := by rw [bs_size]; exact h2
  have zl : (bs l).size < 10000 := by rw [bs_size]; exact h3
  have zj : (bs j).size < 10000 := by rw [bs_size]; exact h4
  have HT : Hid ((bs l ++ (⟨#[32]⟩ : ByteArray) ++ bs f ++ (⟨#[32]⟩ : ByteArray) ++ bs v ++ (⟨#[32]⟩ : ByteArray) ++ bs j) = bs (keyT ⟨f, v, l, j⟩)) := by
    show _ = _
    simp only [k32, bs_append, keyT]
  have hkl := keyT_len ⟨f, v, l, j⟩
  simp only at hkl
  obtain ⟨K, hK⟩ : ∃ K, K = keyT ⟨f, v, l, j⟩ := ⟨_, rfl⟩
  obtain ⟨q1, q2, q3, q4⟩ := words_lens K
  have HR : Hid (keyS ⟨f, v, l, j⟩ = (Tx.join (words K)).map lowr) := by show _ = _; rw [hK]; rfl
  rw [← hK] at hkl HT
  have hKs : (bs K).size < 100000 := by rw [bs_size]; omega
  clear hK q4
  go_enter Tryd.func23, Tryd.ntmps23
  go_wp2_with fail
  rw [HT.out]
  refine (words_any (bs K) _ hKs).mono ?_
  rintro e w2 ⟨v2, rfl, hr, hb⟩
  rw [bs_list] at hr
  go_wp2_with fail
  refine (join_any v2 (words K) _ hr (by omega) (by omega)).mono ?_
  rintro e w3 ⟨rfl, hb2⟩
  have hbel : Below w.heap.size w w3 := ((Below.refl _ _).alloc (Nat.le_refl _) _).trans ((hb.trans (hb2.mono hb.size)).mono (by simp))
  clear hb hb2 hr HT
  generalize hT : Tx.join (words K) = T at *
  have hcv := run_bytes_of_string (P := Tryd.prog) w3 9 45 5 (bs T) Tryd.underlying9 Tryd.underlying45 Tryd.underlying5
  have hcap := grownCap_ge w3 (bs T).size 0 5
  generalize hc : grownCap w3 (bs T).size 0 5 = c at *
  rw [bs_size] at hcap
  have hlaid := bytes_laid w3 5 T c hcap
  have hb4 : Below w3.heap.size w3 (w3.drew.alloc (.cells (bytesRow (bs T) c) 5 ((bytesRow (bs T) c).size, (bytesRow (bs T) c).size + 1))) := ((Below.refl _ _).drew).alloc (Nat.le_refl _) _
  have hlt4 : w3.heap.size < (w3.drew.alloc (.cells (bytesRow (bs T) c) 5 ((bytesRow (bs T) c).size, (bytesRow (bs T) c).size + 1))).heap.size := by simp
  rw [bs_size] at hcv
  generalize (w3.drew.alloc (.cells (bytesRow (bs T) c) 5 ((bytesRow (bs T) c).size, (bytesRow (bs T) c).size + 1))) = w4 at *
  clear hc hT
  have HL := Lib.hid hlaid
  clear hlaid
  have hbw := hbel.trans (hb4.mono hbel.size)
  have hle := hbel.size
  clear hb4 hbel
  generalize w3.heap.size = g at *
  go_wp2_with fail
  go_loopw [25] (fun i wr => ∃ k : Nat, k ≤ T.length ∧ i = .int .i64 k ∧ Cl wr g (lowTo T k) ∧ Below w.heap.size w wr ∧ g < wr.heap.size) (fun i _ => T.length - (intOf i).toNat)
  case atStart => exact ⟨0, Nat.zero_le _, rfl, HL.out, hbw, hlt4⟩
  case round =>
    obtain ⟨k, hk, rfl, hcl, hbel, hgl⟩ := hrel
    by_cases hlt : k < T.length
    · have hck := hcl k (by rw [lowTo_length]; exact hlt)
      rw [lowTo_at T k hlt] at hck
      obtain ⟨hc1, hc2⟩ := hck
      have hx : (k : Int) < (T.length : Int) := by omega
      have HS := Lib.hid (lowTo_step T k hlt)
      have HN := Lib.hid (lowTo_same T k hlt)
      have HY := Lib.hid (lowr_yes T[k])
      have HC := Lib.hid hcl
      have hcb : T[k].toNat < 256 := T[k].toNat_lt
      clear hcl
      generalize hx0 : T[k] = x at *
      clear hx0
      by_cases hin : 65 ≤ x.toNat ∧ x.toNat ≤ 90
      · have HX := Lib.hid (HY.out hin.1 hin.2)
        have i1 : (65 : Int) ≤ (x.toNat : Int) := by omega
        have i2 : (x.toNat : Int) ≤ 90 := by omega
        clear hin
        go_wp2_with fail
        go_roundw
        case rel => exact ⟨k + 1, by omega, by go_num, by rw [HS.out]; exact HC.out.set k _ _ (by rw [HX.out]; omega), hbel.setCell hle _, by simpa using hgl⟩
        case measure => simp [intOf]; omega
      · have HX := Lib.hid (HN.out hin)
        by_cases hin1 : 65 ≤ x.toNat
        · have i1 : (65 : Int) ≤ (x.toNat : Int) := by omega
          have i2 : (90 : Int) < (x.toNat : Int) := by omega
          clear hin
          go_wp2_with fail
          go_roundw
          case rel => exact ⟨k + 1, by omega, by go_num, by rw [HX.out]; exact HC.out, hbel, hgl⟩
          case measure => simp [intOf]; omega
        · have i1 : (x.toNat : Int) < 65 := by omega
          clear hin
          go_wp2_with fail
          go_roundw
          case rel => exact ⟨k + 1, by omega, by go_num, by rw [HX.out]; exact HC.out, hbel, hgl⟩
          case measure => simp [intOf]; omega
    · obtain rfl : k = T.length := by omega
      rw [lowTo_all] at hcl
      have hcv2 := run_convert_bytes_back (P := Tryd.prog) wr 45 9 5 ⟨g, 0, none⟩ c (T.map lowr) Tryd.underlying45 Tryd.underlying5 Tryd.underlying9 (fun j hj => by rw [Addr.add_lit, Nat.zero_add]; exact (hcl j hj).1)
      rw [List.length_map] at hcv2
      clear hcl
      go_wp2_with fail
      go_ret
      exact ⟨by rw [HR.out]; rfl, hbel⟩
end Go.Proofs.YtmnekomoiffebaaDoor
