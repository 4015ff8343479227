/- The walks of name.Label, stetref16.Label, Refs. -/
import Derived.Test.YtmnekomoiffebaaDoorRows
import Derived.Test.YtmnekomoiffebaaDoorKit
import Derived.Test.YtmnekomoiffebaaDoorStr
import Derived.Test.YtmnekomoiffebaaDoorShelf
import Derived.Test.YtmnekomoiffebaaDoorNmW7
import Derived.Test.YtmnekomoiffebaaDoorNmS1
import Derived.Test.YtmnekomoiffebaaDoorNmS2
import Derived.Test.YtmnekomoiffebaaDoorNmS7
import Derived.Test.YtmnekomoiffebaaDoorOwnC
namespace Go.Proofs.YtmnekomoiffebaaDoor
open Go.RowKit Go.Lib Go.Sort Tx

theorem slAddr0 (A : Option Addr) (c s : Nat) : slAddr A 0 c s = A := by
  unfold slAddr
  split
  · rfl
  · cases A with
    | none => rfl
    | some a => obtain ⟨b, o, s'⟩ := a; simp [Addr.add]
theorem pc_length (p : P4) : (pc p).length = 4 := rfl
theorem pc_cells {w : World} {g o : Nat} {p : P4} (h : ∀ i u, (pc p)[i]? = some u → w.cell? ⟨g, o + i, none⟩ = some u) :
    w.cell? ⟨g, o, none⟩ = some (.string (bs p.first)) ∧ w.cell? ⟨g, o + 1, none⟩ = some (.string (bs p.von)) ∧ w.cell? ⟨g, o + 2, none⟩ = some (.string (bs p.last)) ∧ w.cell? ⟨g, o + 3, none⟩ = some (.string (bs p.jr)) :=
  ⟨h 0 _ rfl, h 1 _ rfl, h 2 _ rfl, h 3 _ rfl⟩
theorem ini_len (p : P4) : (p.last.take 1).length ≤ 1 := by simp; omega

set_option maxHeartbeats 4000000 in
theorem label_more_any (A : Option Addr) (n cap : Nat) (l : List P4) (w : World) (h : RowC 4 pc w w.heap.size (.slice A n cap) l) (hn : l.length = n) (h1 : n ≠ 1) (hb : n < 1000) (hs : ∀ p ∈ l, Sm p 10000) :
    Calls Tryd.prog 25 #[.slice A n cap] w fun e w' => e = .returned (vs (labelS l)) ∧ Below w.heap.size w w' := by
  have HR := Lib.hid (label_more l (by omega))
  have hsl := slAddr0 A cap 4
  have i1 : ((n : Int) == 1) = false := by simp; omega
  have hcut : ∃ m, m = (cutS l).length ∧ RowC 4 pc w w.heap.size (.slice A m cap) (cutS l) ∧ ∀ p ∈ cutS l, Sm p 10000 := by
    refine ⟨_, rfl, ?_⟩
    unfold cutS
    split
    · rename_i h4
      have e : (l.take 3).length = 3 := by simp; omega
      rw [e]
      exact ⟨h.cutTo (by omega), fun p hp => hs p (List.mem_of_mem_take hp)⟩
    · rw [hn]; exact ⟨h, hs⟩
  have hm3 : 4 < n → (cutS l).length = 3 := fun h4 => by unfold cutS; rw [if_pos (by omega)]; simp; omega
  have hm4 : ¬ 4 < n → (cutS l).length = n := fun h4 => by unfold cutS; rw [if_neg (by omega)]; exact hn
  obtain ⟨m, hm, hrow, hsm⟩ := hcut
  rw [← hm] at hm3 hm4
  obtain ⟨_, r1, r2, r3⟩ := hrow.bounds
  obtain ⟨_, r4, _⟩ := h.bounds
  have HS := Lib.hid hsm
  have HROW : Hid (∀ k, k < m → ∃ b off x, (cutS l)[k]? = some x ∧ A = some ⟨b, off, none⟩ ∧ b < w.heap.size ∧ ∀ i u, (pc x)[i]? = some u → w.cell? ⟨b, off + k * 4 + i, none⟩ = some u) := by
    refine Lib.hid ?_
    intro k hk
    obtain ⟨b, off, e9, hb9, hc9⟩ := r3 k (by omega)
    exact ⟨b, off, _, List.getElem?_eq_getElem (by omega), e9, hb9, hc9⟩
  have HM : Hid (m = (cutS l).length) := Lib.hid hm
  have HT : Hid (labelS l = (cutS l).flatMap (fun p => p.last.take 1) ++ (if 4 < n then [43] else [])) := by
    show _ = _
    rw [HR.out, hn]
  clear HR h hs hn hrow r3 hm hsm
  generalize cutS l = cs at *
  have hmb : m < 1000 := by by_cases h4 : 4 < n <;> simp [h4] at hm3 hm4 <;> omega
  by_cases h4 : 4 < n
  · have hm0 := hm3 h4
    subst hm0
    have HF : Hid (labelS l = cs.flatMap (fun p => p.last.take 1) ++ [43]) := by show _ = _; rw [HT.out, if_pos h4]
    have i2 : (4 : Int) < (n : Int) := by omega
    have i3 : (3 : Int) ≤ (cap : Int) := by omega
    clear hm3 hm4 h4 HT
    go_enter Tryd.func25, Tryd.ntmps25
    go_wp2_with fail
    go_loopw [3, 23] (fun s i wr => ∃ k : Nat, k ≤ 3 ∧ i = .int .i64 k ∧ s = .string (bs ((cs.take k).flatMap fun p => p.last.take 1)) ∧ Below w.heap.size w wr) (fun _ i _ => 3 - (intOf i).toNat)
    case atStart => exact ⟨0, Nat.zero_le _, rfl, rfl, Below.refl _ _⟩
    case round =>
      obtain ⟨k, hk, rfl, rfl, hbel⟩ := hrel
      have hfl := flat_len (fun p : P4 => p.last.take 1) 1 (cs.take k) (fun p _ => ini_len p)
      have htl : (cs.take k).length ≤ k := List.length_take_le _ _
      have hsz : (bs ((cs.take k).flatMap fun p => p.last.take 1)).size < 2000 := by rw [bs_size]; rw [Nat.mul_one] at hfl; omega
      have hle := hbel.size
      clear hfl htl
      by_cases hlt : k < 3
      · obtain ⟨b, off, x, hxk, rfl, hbl, hc⟩ := HROW.out k hlt
        obtain ⟨c0, c1, c2, c3⟩ := pc_cells (fun i u hu => (hbel.cell (p := ⟨b, off + k * 4 + i, none⟩) hbl).trans (hc i u hu))
        obtain ⟨hkl, hxe⟩ := List.getElem?_eq_some_iff.1 hxk
        have hlen := (HS.out _ (List.getElem_mem hkl)).last
        have HST := Lib.hid (flat_step (fun p : P4 => p.last.take 1) cs k hkl)
        rw [hxe] at hlen HST
        have i4 : (k : Int) < 3 := by omega
        clear hc hxk hxe
        obtain ⟨xf, xv, xl, xj⟩ := x
        simp only at c0 c1 c2 c3 hlen
        have hz2 : (bs (xl.take 1)).size < 10 := by rw [bs_size]; simp; omega
        go_wp2_with fail
        refine (head_any xl 1 _ (by omega) (by omega) (by omega)).mono ?_
        rintro e w3 ⟨rfl, rfl⟩
        go_wp2_with fail
        go_roundw
        case rel => exact ⟨k + 1, by omega, by go_num, by rw [HST.out, bs_append], hbel.alloc hle _⟩
        case measure => simp [intOf]; omega
      · obtain rfl : k = 3 := by omega
        have hall : cs.take 3 = cs := List.take_of_length_le (by rw [← HM.out]; exact Nat.le_refl _)
        have HA := Lib.hid hall
        clear hall
        go_wp2_with fail
        go_ret
        exact ⟨ret_bs (by rw [HA.out, HF.out, ← bs_append]; rfl), hbel⟩
  · have hm0 := hm4 h4
    subst hm0
    have HF : Hid (labelS l = cs.flatMap (fun p => p.last.take 1)) := by show _ = _; rw [HT.out, if_neg h4, List.append_nil]
    have i2 : (m : Int) ≤ 4 := by omega
    have i3 : decide ((4 : Int) < (m : Int)) = false := by simp; omega
    clear hm3 hm4 h4 HT
    go_enter Tryd.func25, Tryd.ntmps25
    go_wp2_with fail
    go_loopw [3, 23] (fun s i wr => ∃ k : Nat, k ≤ m ∧ i = .int .i64 k ∧ s = .string (bs ((cs.take k).flatMap fun p => p.last.take 1)) ∧ Below w.heap.size w wr) (fun _ i _ => m - (intOf i).toNat)
    case atStart => exact ⟨0, Nat.zero_le _, rfl, rfl, Below.refl _ _⟩
    case round =>
      obtain ⟨k, hk, rfl, rfl, hbel⟩ := hrel
      have hfl := flat_len (fun p : P4 => p.last.take 1) 1 (cs.take k) (fun p _ => ini_len p)
      have htl : (cs.take k).length ≤ k := List.length_take_le _ _
      have hsz : (bs ((cs.take k).flatMap fun p => p.last.take 1)).size < 2000 := by rw [bs_size]; rw [Nat.mul_one] at hfl; omega
      have hle := hbel.size
      clear hfl htl
      by_cases hlt : k < m
      · obtain ⟨b, off, x, hxk, rfl, hbl, hc⟩ := HROW.out k hlt
        obtain ⟨c0, c1, c2, c3⟩ := pc_cells (fun i u hu => (hbel.cell (p := ⟨b, off + k * 4 + i, none⟩) hbl).trans (hc i u hu))
        obtain ⟨hkl, hxe⟩ := List.getElem?_eq_some_iff.1 hxk
        have hlen := (HS.out _ (List.getElem_mem hkl)).last
        have HST := Lib.hid (flat_step (fun p : P4 => p.last.take 1) cs k hkl)
        rw [hxe] at hlen HST
        have i4 : (k : Int) < (m : Int) := by omega
        clear hc hxk hxe
        obtain ⟨xf, xv, xl, xj⟩ := x
        simp only at c0 c1 c2 c3 hlen
        have hz2 : (bs (xl.take 1)).size < 10 := by rw [bs_size]; simp; omega
        go_wp2_with fail
        refine (head_any xl 1 _ (by omega) (by omega) (by omega)).mono ?_
        rintro e w3 ⟨rfl, rfl⟩
        go_wp2_with fail
        go_roundw
        case rel => exact ⟨k + 1, by omega, by go_num, by rw [HST.out, bs_append], hbel.alloc hle _⟩
        case measure => simp [intOf]; omega
      · obtain rfl : k = m := by omega
        have hall : cs.take k = cs := List.take_of_length_le (by rw [← HM.out]; exact Nat.le_refl _)
        have HA := Lib.hid hall
        clear hall
        go_wp2_with fail
        go_ret
        exact ⟨ret_bs (by rw [HA.out, HF.out]), hbel⟩
set_option maxHeartbeats 1000000 in
theorem label_one_any (A : Option Addr) (cap : Nat) (p : P4) (w : World) (h : RowC 4 pc w w.heap.size (.slice A 1 cap) [p]) (hs : Sm p 10000) :
    Calls Tryd.prog 25 #[.slice A 1 cap] w fun e w' => e = .returned (vs (labelS [p])) ∧ Below w.heap.size w w' := by
  obtain ⟨_, r1, r2, r3⟩ := h.bounds
  obtain ⟨b, off, rfl, hb, hc⟩ := r3 0 (by simp)
  rw [Nat.zero_mul, Nat.add_zero] at hc
  obtain ⟨c0, c1, c2, c3⟩ := pc_cells hc
  obtain ⟨xf, xv, xl, xj⟩ := p
  have hlen := hs.last
  simp only at c2 hlen
  clear hc r3 h hs c0 c1 c3
  go_enter Tryd.func25, Tryd.ntmps25
  go_wp2_with fail
  refine (head_any xl 3 _ (by omega) (by omega) (by omega)).mono ?_
  rintro e w3 ⟨rfl, rfl⟩
  go_wp2_with fail
  go_ret
  exact ⟨rfl, Below.refl _ _⟩
theorem label_any (v : Value) (l : List P4) (w : World) (h : RowC 4 pc w w.heap.size v l) (hb : l.length < 1000) (hs : ∀ p ∈ l, Sm p 10000) :
    Calls Tryd.prog 25 #[v] w fun e w' => e = .returned (vs (labelS l)) ∧ Below w.heap.size w w' := by
  obtain ⟨A, cap, rfl, _⟩ := h.shape
  by_cases h1 : l.length = 1
  · obtain ⟨p, rfl⟩ := List.length_eq_one_iff.1 h1
    exact label_one_any A cap p w h (hs p (by simp))
  · exact label_more_any A _ cap l w h rfl h1 hb hs

theorem ext_minz (x : Bs) (z : Int) (h : 0 ≤ z) : (bs x).extract 0 (min z ((bs x).size : Int)).toNat = bs (x.take z.toNat) := by
  obtain ⟨n, rfl⟩ := Int.eq_ofNat_of_zero_le h
  rw [Int.toNat_natCast]
  exact ext_min x n
set_option maxHeartbeats 1000000 in
theorem rlabel_one_any (A : Option Addr) (cap : Nat) (p : P4) (w : World) (h : RowC 4 pc w w.heap.size (.slice A 1 cap) [p]) (hs : Sm p 10000) :
    Calls Tryd.prog 26 #[.slice A 1 cap] w fun e w' => e = .returned (vs (labelS [p])) ∧ ∃ n, w' = w.drewN n := by
  obtain ⟨_, r1, r2, r3⟩ := h.bounds
  obtain ⟨b, off, rfl, hb, hc⟩ := r3 0 (by simp)
  rw [Nat.zero_mul, Nat.add_zero] at hc
  obtain ⟨c0, c1, c2, c3⟩ := pc_cells hc
  obtain ⟨xf, xv, xl, xj⟩ := p
  have hlen := hs.last
  simp only at c2 hlen
  have HM := Lib.hid (ext_minz xl 3 (by omega))
  have hsz : (bs xl).size < 10000 := by rw [bs_size]; exact hlen
  have i1 : (0 : Int) ≤ min 3 ((bs xl).size : Int) := by omega
  have i2 : min 3 ((bs xl).size : Int) ≤ ((bs xl).size : Int) := by omega
  clear hc r3 h hs c0 c1 c3
  go_enter Tryd.func26, Tryd.ntmps26
  go_wp2_with fail
  go_quiet (fail)
  go_wp2_with fail
  go_ret
  exact ⟨ret_bs HM.out, _, rfl⟩

set_option maxHeartbeats 4000000 in
theorem rlabel_more_any (A : Option Addr) (n cap : Nat) (cs : List P4) (w : World) (h : RowC 4 pc w w.heap.size (.slice A n cap) cs) (h1 : n ≠ 1) (hb : n < 1000) (hs : ∀ p ∈ cs, Sm p 10000) :
    Calls Tryd.prog 26 #[.slice A n cap] w fun e w' => e = .returned (vs (labelS cs)) ∧ ∃ n, w' = w.drewN n := by
  obtain ⟨hn, r1, r2, r3⟩ := h.bounds
  have HR := Lib.hid (label_more cs (by omega))
  have i1 : ((n : Int) == 1) = false := by simp; omega
  have HS := Lib.hid hs
  have HN := Lib.hid hn
  have HC := Lib.hid r3
  clear h hn r3 hs
  obtain ⟨m, hm⟩ : ∃ m, m = if 4 < n then 3 else n := ⟨_, rfl⟩
  have hmn : m ≤ n := by rw [hm]; split <;> omega
  have HM : Hid (cutS cs = cs.take m) := by
    show _ = _
    unfold cutS
    rw [hm, HN.out]
    split
    · rfl
    · rw [List.take_of_length_le (by rw [HN.out]; exact Nat.le_refl _)]
  have hm3 : 4 < n → m = 3 := fun h4 => by rw [hm, if_pos h4]
  have hm4 : ¬ 4 < n → m = n := fun h4 => by rw [hm, if_neg h4]
  clear hm
  go_enter Tryd.func26, Tryd.ntmps26
  go_wp2_with fail
  go_loopw [3, 4] (fun s i wr => ∃ k q : Nat, k ≤ m ∧ i = .int .i64 k ∧ s = .string (bs ((cs.take k).flatMap fun p => p.last.take 1)) ∧ wr = w.drewN q) (fun _ i _ => m - (intOf i).toNat)
  case atStart => exact ⟨0, 0, Nat.zero_le _, rfl, rfl, rfl⟩
  case round =>
    obtain ⟨k, q, hk, rfl, rfl, rfl⟩ := hrel
    have hfl := flat_len (fun p : P4 => p.last.take 1) 1 (cs.take k) (fun p _ => ini_len p)
    have htl : (cs.take k).length ≤ k := List.length_take_le _ _
    have hsz : (bs ((cs.take k).flatMap fun p => p.last.take 1)).size < 2000 := by rw [bs_size]; rw [Nat.mul_one] at hfl; omega
    clear hfl htl
    by_cases hlt : k < m
    · have hkl : k < cs.length := by rw [HN.out]; omega
      obtain ⟨b, off, rfl, hbl, hc⟩ := HC.out k hkl
      obtain ⟨c0, c1, c2, c3⟩ := pc_cells hc
      have hlen := (HS.out _ (List.getElem_mem hkl)).last
      have HST := Lib.hid (flat_step (fun p : P4 => p.last.take 1) cs k hkl)
      have i4 : (k : Int) < (n : Int) := by omega
      have i0 : (0 : Int) ≤ (k : Int) := by omega
      clear hc
      generalize cs[k]'hkl = x at *
      obtain ⟨xf, xv, xl, xj⟩ := x
      simp only at c0 c1 c2 c3 hlen
      have HMI := Lib.hid (ext_minz xl 1 (by omega))
      have hsx : (bs xl).size < 10000 := by rw [bs_size]; exact hlen
      have i5 : (0 : Int) ≤ min 1 ((bs xl).size : Int) := by omega
      have i6 : min 1 ((bs xl).size : Int) ≤ ((bs xl).size : Int) := by omega
      have hmx := HMI.out
      have hz2 : (bs (xl.take 1)).size < 10 := by rw [bs_size]; simp; omega
      simp only [show (1 : Int).toNat = 1 from rfl] at hmx
      clear c0 c1 c3
      by_cases h4 : 4 < n
      · have hm0 := hm3 h4
        subst hm0
        have j1 : (k : Int) < 3 := by omega
        clear hm3 hm4
        go_wp2_with fail
        go_quiet (fail)
        go_wp2_with fail
        go_roundw
        case rel => exact ⟨k + 1, _, by omega, by go_num, by rw [HST.out, bs_append], by first | rfl | exact World.drewN_drewN _ _ _⟩
        case measure => simp [intOf]; omega
      · have j1 : (n : Int) ≤ 4 := by omega
        clear hm3 hm4
        by_cases h5 : k < 3
        · have j2 : (k : Int) < 3 := by omega
          go_wp2_with fail
          go_quiet (fail)
          go_wp2_with fail
          go_roundw
          case rel => exact ⟨k + 1, _, by omega, by go_num, by rw [HST.out, bs_append], by first | rfl | exact World.drewN_drewN _ _ _⟩
          case measure => simp [intOf]; omega
        · have j2 : (3 : Int) ≤ (k : Int) := by omega
          go_wp2_with fail
          go_quiet (fail)
          go_wp2_with fail
          go_roundw
          case rel => exact ⟨k + 1, _, by omega, by go_num, by rw [HST.out, bs_append], by first | rfl | exact World.drewN_drewN _ _ _⟩
          case measure => simp [intOf]; omega
    · obtain rfl : k = m := by omega
      by_cases h4 : 4 < n
      · have hm0 := hm3 h4
        subst hm0
        have HF : Hid (labelS cs = (cs.take 3).flatMap (fun p => p.last.take 1) ++ [43]) := by show _ = _; rw [HR.out, HM.out, HN.out, if_pos h4]
        have j1 : (4 : Int) < (n : Int) := by omega
        have j2 : (3 : Int) < (n : Int) := by omega
        clear hm3 hm4
        go_wp2_with fail
        go_ret
        exact ⟨ret_bs (by rw [HF.out, ← bs_append]; rfl), q, rfl⟩
      · have hm0 := hm4 h4
        have HF : Hid (labelS cs = (cs.take k).flatMap (fun p => p.last.take 1)) := by show _ = _; rw [HR.out, HM.out, HN.out, if_neg h4, List.append_nil]
        have j1 : (n : Int) ≤ 4 := by omega
        have j2 : (n : Int) ≤ (k : Int) := by omega
        clear hm3 hm4 hm0
        go_wp2_with fail
        go_ret
        exact ⟨ret_bs (by rw [HF.out]), q, rfl⟩
theorem rlabel_any (v : Value) (l : List P4) (w : World) (h : RowC 4 pc w w.heap.size v l) (hb : l.length < 1000) (hs : ∀ p ∈ l, Sm p 10000) :
    Calls Tryd.prog 26 #[v] w fun e w' => e = .returned (vs (labelS l)) ∧ ∃ n, w' = w.drewN n := by
  obtain ⟨A, cap, rfl, _⟩ := h.shape
  by_cases h1 : l.length = 1
  · obtain ⟨p, rfl⟩ := List.length_eq_one_iff.1 h1
    exact rlabel_one_any A cap p w h (hs p (by simp))
  · exact rlabel_more_any A _ cap l w h h1 hb hs
end Go.Proofs.YtmnekomoiffebaaDoor
