/- '==' of two persons; the walks of Refs, Cut. -/
import Derived.Test.YtmnekomoiffebaaDoorRows
import Derived.Test.YtmnekomoiffebaaDoorKit
import Derived.Test.YtmnekomoiffebaaDoorStr
import Derived.Test.YtmnekomoiffebaaDoorShelf
import Derived.Test.YtmnekomoiffebaaDoorNmW7
import Derived.Test.YtmnekomoiffebaaDoorNmS1
import Derived.Test.YtmnekomoiffebaaDoorNmS2
import Derived.Test.YtmnekomoiffebaaDoorNmS7
import Derived.Test.YtmnekomoiffebaaDoorNmS8
import Derived.Test.YtmnekomoiffebaaDoorOwnC
import Derived.Test.YtmnekomoiffebaaDoorEqS
import Derived.Laws.StructEq
namespace Go.Proofs.YtmnekomoiffebaaDoor
open Go.RowKit Go.Lib Go.Sort Tx

def eqP (p q : P4) : Bool := p.first == q.first && (p.von == q.von && (p.last == q.last && p.jr == q.jr))
theorem eqP_self (p : P4) : eqP p p = true := by simp [eqP]
theorem rUnder : Tryd.prog.underlying 26 = some (.struct (Tryd.prog.fieldsOf 26)) := by kernel_rfl
theorem rStood : Tryd.prog.stoodInHeld 26 = false := by kernel_rfl
theorem rGuard : Tryd.prog.eqGuardType Tryd.prog.depth 26 = false := by kernel_rfl
theorem rFields : (Tryd.prog.fieldsOf 26).toList.map (fun f => (f.name == "_", f.type, f.offset)) = [(false, 9, 0), (false, 9, 1), (false, 9, 2), (false, 9, 3)] := by kernel_rfl
theorem eq_pers (p q : P4) (w : World) : (binOp .eql 26 (pv p) (pv q)).run Tryd.prog w = .ok (.bool (eqP p q)) w := by
  rw [run_eql_struct, run_equalIn_struct w _ _ _ _ rUnder rStood]
  have h := rFields
  generalize (Tryd.prog.fieldsOf 26).toList = fs at *
  have key : FieldsEq 9999 #[.string (bs p.first), .string (bs p.von), .string (bs p.last), .string (bs p.jr)] #[.string (bs q.first), .string (bs q.von), .string (bs q.last), .string (bs q.jr)] fs [p.first == q.first, p.von == q.von, p.last == q.last, p.jr == q.jr] := by
    rcases fs with _ | ⟨a, _ | ⟨b, _ | ⟨c, _ | ⟨d, _ | ⟨e, r⟩⟩⟩⟩⟩
    all_goals simp only [List.map_cons, List.map_nil, List.cons.injEq, Prod.mk.injEq, and_true, reduceCtorEq, and_false] at h
    obtain ⟨⟨a1, a2, a3⟩, ⟨b1, b2, b3⟩, ⟨c1, c2, c3⟩, ⟨d1, d2, d3⟩⟩ := h
    simp only [beq_eq_false_iff_ne] at a1 b1 c1 d1
    have st : ∀ (x y : Bs) w, (Op.equalIn 9999 9 (.string (bs x)) (.string (bs y))).run Tryd.prog w = .ok (x == y) w := fun x y w => by
      rw [run_equalIn_string w 9998 _ _ _ Tryd.underlying9, toList_bs, toList_bs]
    refine ⟨a1, ⟨.string (bs p.first), .string (bs q.first), ?_, ?_, ?_⟩, b1, ⟨.string (bs p.von), .string (bs q.von), ?_, ?_, ?_⟩, c1, ⟨.string (bs p.last), .string (bs q.last), ?_, ?_, ?_⟩, d1, ⟨.string (bs p.jr), .string (bs q.jr), ?_, ?_, ?_⟩, trivial⟩
    all_goals (try rw [a2]); (try rw [a3]); (try rw [b2]); (try rw [b3]); (try rw [c2]); (try rw [c3]); (try rw [d2]); (try rw [d3])
    all_goals (first | exact st _ _ | exact run_part1 _ _ _ _ Tryd.underlying9 rfl)
  rw [eqFields_run _ _ _ _ _ _ key]
  simp [eqP]

theorem pInfo : (Tryd.prog.info? 26).map (fun i => (i.zero, i.size, i.bytes)) = some (some (.agg #[.string ⟨#[]⟩, .string ⟨#[]⟩, .string ⟨#[]⟩, .string ⟨#[]⟩]), 4, 64) := by kernel_rfl
set_option maxHeartbeats 2000000 in
theorem refs_any (v : Value) (l : List P4) (w : World) (h : RowC 4 pc w w.heap.size v l) (hb : l.length < 1000) :
    Calls Tryd.prog 27 #[v] w fun e w' => ∃ o, e = .returned o ∧ OwnC 26 4 pc w.heap.size w' o l ∧ Below w.heap.size w w' := by
  obtain ⟨A, cap, rfl, _⟩ := h.shape
  obtain ⟨_, r1, r2, r3⟩ := h.bounds
  have HC := Lib.hid r3
  obtain ⟨n, hn⟩ : ∃ n, n = l.length := ⟨_, rfl⟩
  have HN := Lib.hid hn
  rw [← hn] at r1 hb ⊢
  clear r3 h hn
  obtain ⟨i0, hi0, hz0, hz1, hz2⟩ := info_parts pInfo
  have HI := Lib.hid (And.intro hi0 (And.intro hz0 (And.intro hz1 hz2)))
  clear hi0 hz0 hz1 hz2
  go_enter Tryd.func27, Tryd.ntmps27
  go_wp2_with fail
  go_loopw [3, 4] (fun o i wr => ∃ k : Nat, k ≤ n ∧ i = .int .i64 k ∧ OwnC 26 4 pc w.heap.size wr o (l.take k) ∧ Below w.heap.size w wr) (fun _ i _ => n - (intOf i).toNat)
  case atStart => exact ⟨0, Nat.zero_le _, rfl, OwnC.made _ _ _ _ _ (Nat.le_refl _), (Below.refl _ _).alloc (Nat.le_refl _) _⟩
  case round =>
    obtain ⟨k, hk, rfl, ho, hbel⟩ := hrel
    have hle := hbel.size
    by_cases hlt : k < n
    · have hkl : k < l.length := by rw [← HN.out]; exact hlt
      obtain ⟨b, off, rfl, hbl, hc⟩ := HC.out k hkl
      obtain ⟨c0, c1, c2, c3⟩ := pc_cells (fun i u hu => (hbel.cell (p := ⟨b, off + k * 4 + i, none⟩) hbl).trans (hc i u hu))
      have i4 : (k : Int) < (n : Int) := by omega
      have HST : Hid (l.take (k + 1) = l.take k ++ [l[k]]) := Lib.hid (List.take_succ_eq_append_getElem hkl)
      have hol : (l.take k).length ≤ k := List.length_take_le _ _
      have HO := Lib.hid ho
      clear hc ho
      generalize l[k]'hkl = x at *
      go_wp2_with fail
      refine (ref_any x _).mono ?_
      rintro e w3 ⟨rfl, hb3⟩
      have hz := hb3.size
      go_wp2_with (at_builtin; refine wpList_appN rfl (.tmp 12) (.tmp 18) 39 rfl w.heap.size 26 i0 _ 4 64 Tryd.underlying39 HI.out.1 HI.out.2.1 HI.out.2.2.1 HI.out.2.2.2 rfl (by decide) _ (l.take k).length _ (pc x) rfl (by simp [Value.oneCell']) rfl _ rfl rfl (HO.out.below hb3) (Nat.le_trans hle hz) (by simp only [maxLen]; omega) (by omega) ?_; intro v' w4 h8 h9 h10)
      have h8' : OwnC 26 4 pc w.heap.size w4 v' (l.take k ++ [x]) := by
        simpa [OwnC] using h8
      have h11 := grown_below (HO.out.below hb3) (Nat.le_trans hle hz) h9
      go_roundw
      case rel => exact ⟨k + 1, by omega, by go_num, by rw [HST.out]; exact h8', (below_via hbel hb3).trans h11⟩
      case measure => simp [intOf]; omega
    · obtain rfl : k = n := by omega
      rw [List.take_of_length_le (by rw [← HN.out]; exact Nat.le_refl _)] at ho
      go_wp2_with fail
      go_ret
      exact ⟨_, rfl, ho, hbel⟩

def cutP (p : P4) : P4 := ⟨p.first.take 60, p.von.take 60, p.last.take 60, p.jr.take 60⟩
theorem cutP_sm (p : P4) : Sm (cutP p) 61 := by
  constructor <;> (simp [cutP]; omega)
theorem ext_minr (x : Bs) (z : Int) (h : 0 ≤ z) : (bs x).extract 0 (min ((bs x).size : Int) z).toNat = bs (x.take z.toNat) := by rw [Int.min_comm]; exact ext_minz x z h
set_option maxHeartbeats 2000000 in
theorem cut_any (p : P4) (w : World) (h1 : p.first.length ≤ maxLen) (h2 : p.von.length ≤ maxLen) (h3 : p.last.length ≤ maxLen) (h4 : p.jr.length ≤ maxLen) :
    Calls Tryd.prog 18 #[pv p] w fun e w' => e = .returned (pv (cutP p)) ∧ Below w.heap.size w w' := by
  have HR : Hid (pv (cutP p) = .agg #[.string (bs (p.first.take 60)), .string (bs (p.von.take 60)), .string (bs (p.last.take 60)), .string (bs (p.jr.take 60))]) := Lib.hid rfl
  obtain ⟨f, v, l, j⟩ := p
  simp only [maxLen] at h1 h2 h3 h4 HR
  have mf := ext_minr f 60 (by omega)
  have mv := ext_minr v 60 (by omega)
  have ml := ext_minr l 60 (by omega)
  have mj := ext_minr j 60 (by omega)
  simp only [show (60 : Int).toNat = 60 from rfl] at mf mv ml mj
  have zf := bs_size f
  have zv := bs_size v
  have zl := bs_size l
  have zj := bs_size j
  have f1 : (0 : Int) ≤ min ((bs f).size : Int) 60 := by omega
  have v1 : (0 : Int) ≤ min ((bs v).size : Int) 60 := by omega
  have l1 : (0 : Int) ≤ min ((bs l).size : Int) 60 := by omega
  have j1 : (0 : Int) ≤ min ((bs j).size : Int) 60 := by omega
  have f2 : min ((bs f).size : Int) 60 ≤ ((bs f).size : Int) := by omega
  have v2 : min ((bs v).size : Int) 60 ≤ ((bs v).size : Int) := by omega
  have l2 : min ((bs l).size : Int) 60 ≤ ((bs l).size : Int) := by omega
  have j2 : min ((bs j).size : Int) 60 ≤ ((bs j).size : Int) := by omega
  have f3 : (bs f).size ≤ 9223372036854775807 := by omega
  have v3 : (bs v).size ≤ 9223372036854775807 := by omega
  have l3 : (bs l).size ≤ 9223372036854775807 := by omega
  have j3 : (bs j).size ≤ 9223372036854775807 := by omega
  clear zf zv zl zj h1 h2 h3 h4
  go_enter Tryd.func18, Tryd.ntmps18
  go_wp2_with fail
  refine wp_region_quiet_tail 29 (by kernel_rfl) (by kernel_rfl) ?_
  simp only [List.take_succ_cons, List.take_zero, List.drop_succ_cons, List.drop_zero]
  repeat (go_big_quiet_step (fail))
  refine wpQuiet_nil ?_
  go_wp2_with fail
  refine bodyPost_ret (v := pv ⟨f.take 60, v.take 60, l.take 60, j.take 60⟩) (by simp [results, Tryd.f18, go_sem]) rfl ⟨by rw [HR.out], ?_⟩
  exact (((Below.refl _ _).alloc (Nat.le_refl _) _).alloc (by simp) _).drew
end Go.Proofs.YtmnekomoiffebaaDoor
