/- The reference's length. · The reference's Get and All. · The reference's Put. · The reference's Files. · The reference's Right. · The reference's Parse. -/
import Derived.Test.YtiogmegdkfnkkaaGreatDoorQ4
import Derived.Test.YtiogmegdkfnkkaaGreatDoorQ5
import Derived.Test.YtiogmegdkfnkkaaGreatDoorQ9
import Derived.Test.YtiogmegdkfnkkaaGreatDoorQ2
namespace Go.Proofs.YtiogmegdkfnkkaaGreatDoor
open Go.RowKit Go.Lib Go.Sort Tx

/-- What the document's length answers. -/
def LenPost2 (s : Bs) (a : Nat) (w : World) (e : Ending) (w' : World) : Prop :=
  w = w' ∧ ((∃ n q : Nat, Wr.len (s.drop a) 0 0 = .ok (n, s.drop q) ∧ n ≤ 999999 ∧ a < q ∧ q ≤ s.length ∧ e = .returned (.tuple #[.int .i64 n, .int .i64 q, .int .i64 0])) ∨
    (∃ x : Nat, Wr.len (s.drop a) 0 0 = .error x ∧ x ≠ 0 ∧ e = .returned (.tuple #[.int .i64 0, .int .i64 0, .int .i64 x])))
theorem digit_yes (x : Int) (w : World) (h1 : 48 ≤ x) (h2 : x ≤ 57) : Calls Tryz.prog 60 #[.int .u8 x] w fun e w' => e = .returned (.bool true) ∧ w = w' := by
  go_enter Tryz.func60, Tryz.ntmps60
  go_wp2_with fail
  go_ret
  exact ⟨rfl, rfl⟩
theorem digit_no (x : Int) (w : World) (h : x < 48 ∨ 57 < x) : Calls Tryz.prog 60 #[.int .u8 x] w fun e w' => e = .returned (.bool false) ∧ w = w' := by
  by_cases h1 : x < 48
  · go_enter Tryz.func60, Tryz.ntmps60
    go_wp2_with fail
    go_ret
    exact ⟨rfl, rfl⟩
  · have h2 : (48 : Int) ≤ x := by omega
    have h3 : (57 : Int) < x := by omega
    have h4 : decide (x ≤ 57) = false := by simp; omega
    go_enter Tryz.func60, Tryz.ntmps60
    go_wp2_with fail
    go_ret
    exact ⟨rfl, rfl⟩

set_option maxHeartbeats 4000000 in
theorem rlength_any (s : Bs) (a : Nat) (w : World) (h : a ≤ s.length) (hs : s.length ≤ 1000000000) :
    Calls Tryz.prog 49 #[vs s, .int .i64 a] w (LenPost2 s a w) := by
  have hz := bs_size s
  obtain ⟨d, hd⟩ : ∃ d : UInt8, a < s.length → s[a]? = some d := by
    by_cases h0 : a < s.length
    · exact ⟨s[a], fun _ => List.getElem?_eq_getElem h0⟩
    · exact ⟨0, fun h1 => absurd h1 h0⟩
  have HD := Lib.hid hd
  clear hd
  go_enter Tryz.func49, Tryz.ntmps49
  go_wp2_with fail
  go_loop [7, 8] (fun n i => ∃ p m : Nat, a ≤ p ∧ p ≤ s.length ∧ i = .int .i64 p ∧ n = .int .i64 m ∧ m ≤ 999999 ∧ (p = a → m = 0) ∧ (a < p → (m = 0 ↔ d.toNat = 48)) ∧ Wr.len (s.drop a) 0 0 = Wr.len (s.drop p) (p - a) m) (fun _ i => s.length - (RowKit.intOf i).toNat)
  case atStart => exact ⟨a, 0, Nat.le_refl _, h, rfl, rfl, by omega, fun _ => rfl, fun h => absurd h (Nat.lt_irrefl _), by rw [Nat.sub_self]⟩
  case round =>
    obtain ⟨p, m, hap, hps, rfl, rfl, hm, hpa, hdm, hl⟩ := hrel
    by_cases hlt : p < s.length
    · rw [len_at s p (p - a) m hlt] at hl
      have hpb : p < (bs s).size := by omega
      have hpi : (p : Int) < ((bs s).size : Int) := by omega
      have hgb : (bs s)[p]'hpb = s[p] := rfl
      have hcb : s[p].toNat < 256 := s[p].toNat_lt
      have hab : a < (bs s).size := by omega
      have hai : (a : Int) < ((bs s).size : Int) := by omega
      have hga : (bs s)[a]'hab = d := by
        have h1 := HD.out (by omega)
        rw [List.getElem?_eq_getElem (by omega)] at h1
        exact Option.some.inj h1
      have hpd : p = a → s[p] = d := by
        rintro rfl
        have h1 := HD.out (by omega)
        rw [List.getElem?_eq_getElem (by omega)] at h1
        exact Option.some.inj h1
      have HPD := Lib.hid hpd
      have HPA := Lib.hid hpa
      have HDM := Lib.hid hdm
      clear hpd hdm hpa
      generalize s[p] = c at *
      obtain ⟨x, hx⟩ : ∃ x, x = c.toNat := ⟨_, rfl⟩
      rw [← hx] at hl hcb
      have HX := Lib.hid hx
      have hgx : ((c.toNat : Nat) : Int) = (x : Int) := by rw [hx]
      obtain ⟨y, hy⟩ : ∃ y, y = d.toNat := ⟨_, rfl⟩
      have HY := Lib.hid hy
      have hgy : ((d.toNat : Nat) : Int) = (y : Int) := by rw [hy]
      clear hx hy
      by_cases h1 : x = 58 ∧ a < p
      · obtain ⟨rfl, h2⟩ := h1
        rw [if_pos ⟨rfl, by omega⟩] at hl
        have HL := Lib.hid hl
        have h2' : (a : Int) < (p : Int) := by omega
        clear hl
        go_wp2_with fail
        go_ret3
        exact ⟨rfl, .inl ⟨m, p + 1, HL.out, hm, by omega, by omega, by go_num⟩⟩
      · rw [if_neg (by omega)] at hl
        by_cases h3 : x < 48 ∨ 57 < x ∨ (a < p ∧ m = 0)
        · rw [if_pos (by omega)] at hl
          have HL := Lib.hid hl
          clear hl
          by_cases h5 : (x : Int) < 48 ∨ (57 : Int) < (x : Int)
          · by_cases h58 : x = 58
            · have h4 : (p : Int) ≤ (a : Int) := by omega
              subst h58
              go_wp2_with (go_at_call 60; refine (digit_no _ _ h5).mono ?_; rintro e w' ⟨rfl, rfl⟩)
              go_ret3
              exact ⟨rfl, .inr ⟨5, HL.out, by omega, rfl⟩⟩
            · have h58' : ((x : Int) == 58) = false := by simp; omega
              go_wp2_with (go_at_call 60; refine (digit_no _ _ h5).mono ?_; rintro e w' ⟨rfl, rfl⟩)
              go_ret3
              exact ⟨rfl, .inr ⟨5, HL.out, by omega, rfl⟩⟩
          · have h58' : ((x : Int) == 58) = false := by simp; omega
            have h7' : (a : Int) < (p : Int) := by omega
            have h8' : ((y : Int) == 48) = true := by
              have := (HDM.out (by omega)).1 (by omega)
              rw [← HY.out] at this
              simp; omega
            go_wp2_with (go_at_call 60; refine (digit_yes _ _ (by omega) (by omega)).mono ?_; rintro e w' ⟨rfl, rfl⟩)
            go_ret3
            exact ⟨rfl, .inr ⟨5, HL.out, by omega, rfl⟩⟩
        · rw [if_neg (by omega)] at hl
          have h58' : ((x : Int) == 58) = false := by simp; omega
          have h5' : (48 : Int) ≤ (x : Int) := by omega
          have h6' : (x : Int) ≤ 57 := by omega
          have hdm2 : (a < p + 1 → (m * 10 + (x - 48) = 0 ↔ y = 48)) := by
            intro _
            by_cases h7 : a < p
            · have := HDM.out h7
              rw [← HY.out] at this
              omega
            · have := HPD.out (by omega)
              subst this
              have : x = y := by rw [HX.out, HY.out]
              have : m = 0 := HPA.out (by omega)
              omega
          have HDM2 := Lib.hid hdm2
          clear hdm2
          by_cases h7 : a < p
          · have h7' : (a : Int) < (p : Int) := by omega
            have h8' : ((y : Int) == 48) = false := by
              have := (HDM.out h7)
              rw [← HY.out] at this
              simp; omega
            by_cases h8 : 999999 < m * 10 + (x - 48)
            · rw [if_pos h8] at hl
              have HL := Lib.hid hl
              have h8' : (999999 : Int) < 10 * (m : Int) + (x : Int) - 48 := by omega
              clear hl
              go_wp2_with (go_at_call 60; refine (digit_yes _ _ (by omega) (by omega)).mono ?_; rintro e w' ⟨rfl, rfl⟩)
              go_ret3
              exact ⟨rfl, .inr ⟨3, HL.out, by omega, rfl⟩⟩
            · rw [if_neg h8] at hl
              have HL : Hid (Wr.len (s.drop a) 0 0 = Wr.len (s.drop (p + 1)) (p + 1 - a) (m * 10 + (x - 48))) := by rw [show p + 1 - a = p - a + 1 by omega]; exact hl
              have h8' : 10 * (m : Int) + (x : Int) - 48 ≤ (999999 : Int) := by omega
              clear hl
              go_wp2_with (go_at_call 60; refine (digit_yes _ _ (by omega) (by omega)).mono ?_; rintro e w' ⟨rfl, rfl⟩)
              go_round
              case rel => exact ⟨p + 1, m * 10 + (x - 48), by omega, by omega, by go_num, by congr 1; omega, by omega, by omega, by rw [← HY.out]; exact HDM2.out, HL.out⟩
              case measure => simp [RowKit.intOf]; omega
          · have h7' : (p : Int) ≤ (a : Int) := by omega
            by_cases h8 : 999999 < m * 10 + (x - 48)
            · rw [if_pos h8] at hl
              have HL := Lib.hid hl
              have h8' : (999999 : Int) < 10 * (m : Int) + (x : Int) - 48 := by omega
              clear hl
              go_wp2_with (go_at_call 60; refine (digit_yes _ _ (by omega) (by omega)).mono ?_; rintro e w' ⟨rfl, rfl⟩)
              go_ret3
              exact ⟨rfl, .inr ⟨3, HL.out, by omega, rfl⟩⟩
            · rw [if_neg h8] at hl
              have HL : Hid (Wr.len (s.drop a) 0 0 = Wr.len (s.drop (p + 1)) (p + 1 - a) (m * 10 + (x - 48))) := by rw [show p + 1 - a = p - a + 1 by omega]; exact hl
              have h8' : 10 * (m : Int) + (x : Int) - 48 ≤ (999999 : Int) := by omega
              clear hl
              go_wp2_with (go_at_call 60; refine (digit_yes _ _ (by omega) (by omega)).mono ?_; rintro e w' ⟨rfl, rfl⟩)
              go_round
              case rel => exact ⟨p + 1, m * 10 + (x - 48), by omega, by omega, by go_num, by congr 1; omega, by omega, by omega, by rw [← HY.out]; exact HDM2.out, HL.out⟩
              case measure => simp [RowKit.intOf]; omega
    · obtain rfl : p = s.length := by omega
      rw [len_done] at hl
      have HL := Lib.hid hl
      clear hl hdm hpa
      go_wp2_with fail
      go_ret3
      exact ⟨rfl, .inr ⟨6, HL.out, by omega, rfl⟩⟩
end Go.Proofs.YtiogmegdkfnkkaaGreatDoor
namespace Go.Proofs.YtiogmegdkfnkkaaGreatDoor
open Go.RowKit Go.Lib Go.Sort Tx

set_option maxHeartbeats 4000000 in
theorem rGet_any (s : Bs) (a top : Int) (w : World) (hs : s.length ≤ 1000000000) (ha : I64 a) (ht : I64 top) :
    Calls Tryz.prog 36 #[vs s, .int .i64 a, .int .i64 top] w fun e w' => e = .returned (.tuple #[vs (gX (getR s a top)), .int .i64 (gQ (getR s a top)), .int .i64 (gE (getR s a top))]) ∧ w = w' := by
  have hz := bs_size s
  obtain ⟨ha1, ha2⟩ := ha
  obtain ⟨ht1, ht2⟩ := ht
  obtain ⟨R, hR⟩ : ∃ R, R = getR s a top := ⟨_, rfl⟩
  rw [← hR]
  by_cases h0 : a < 0 ∨ (s.length : Int) < a
  · have hg : R = .error 1 := by rw [hR]; unfold getR; rw [if_pos h0]
    clear hR
    subst hg
    by_cases h1 : a < 0
    · go_enter Tryz.func36, Tryz.ntmps36
      go_wp2_with fail
      go_ret3
      exact ⟨rfl, rfl⟩
    · have h2 : (0 : Int) ≤ a := by omega
      have h3 : ((bs s).size : Int) < a := by omega
      go_enter Tryz.func36, Tryz.ntmps36
      go_wp2_with fail
      go_ret3
      exact ⟨rfl, rfl⟩
  · obtain ⟨k, rfl⟩ : ∃ k : Nat, a = (k : Int) := ⟨a.toNat, by omega⟩
    have hk : k ≤ s.length := by omega
    have i1 : (0 : Int) ≤ (k : Int) := by omega
    have i2 : (k : Int) ≤ ((bs s).size : Int) := by omega
    have HR := Lib.hid (hR.trans (getR_at hk))
    have HL := Lib.hid (rlength_any s k w hk hs)
    clear hR h0
    go_enter Tryz.func36, Tryz.ntmps36
    go_wp2_with fail
    refine HL.out.mono ?_
    rintro e w1 ⟨rfl, ⟨n, q, hl, hn, hkq, hqs, rfl⟩ | ⟨x, hl, hx0, rfl⟩⟩
    · have hg := get1_eq s k n q top.toNat hl hqs
      have b0 : (q : Int) + (n : Int) ≤ 2000000000 := by omega
      have b1 : (0 : Int) ≤ (q : Int) + (n : Int) := by omega
      have b2 : (q : Int) ≤ ((bs s).size : Int) := by omega
      by_cases h1 : top.toNat < n
      · rw [if_pos h1] at hg
        have hg := HR.out.trans (by rw [hg])
        have h1' : top < (n : Int) := by omega
        have h1'' : (0 : Int) < (n : Int) := by omega
        subst hg
        clear HR hl
        go_wp2_with fail
        go_ret3
        exact ⟨rfl, rfl⟩
      · rw [if_neg h1] at hg
        have hn0 : (n : Int) ≤ 0 ∨ ((0 : Int) < (n : Int) ∧ (n : Int) ≤ top) := by omega
        by_cases h2 : s.length < q + n + 1
        · rw [if_pos h2] at hg
          have hg := HR.out.trans (by rw [hg])
          have h2' : ((bs s).size : Int) - (q : Int) < (n : Int) + 1 := by omega
          subst hg
          clear HR hl
          rcases hn0 with hn0 | ⟨hn0, hn1⟩
          · go_wp2_with fail
            go_ret3
            exact ⟨rfl, rfl⟩
          · go_wp2_with fail
            go_ret3
            exact ⟨rfl, rfl⟩
        · rw [if_neg h2] at hg
          have h2' : (n : Int) + 1 ≤ ((bs s).size : Int) - (q : Int) := by omega
          have hqn : q + n < s.length := by omega
          have hqb : q + n < (bs s).size := by omega
          obtain ⟨c, hc⟩ : ∃ c, s[q + n]? = some c := ⟨_, List.getElem?_eq_getElem hqn⟩
          have hgb : (bs s)[q + n]'hqb = c := by
            have := List.getElem?_eq_getElem hqn
            exact Option.some.inj (this.symm.trans hc)
          rw [hc] at hg
          clear hc
          have h3' : (q : Int) + (n : Int) < ((bs s).size : Int) := by omega
          have h5' : ((q : Int) + (n : Int)).toNat = q + n := by omega
          have hx := bs_extract' s q (q + n)
          by_cases h3 : c = 44
          · subst h3
            rw [if_neg (by simp)] at hg
            have hg : R = .ok ((s.take (q + n)).drop q, q + n + 1) := by
              rw [HR.out, hg]
              simp only [List.length_drop]
              rw [List.drop_take, show q + n - q = n by omega, show s.length - (s.length - (q + n + 1)) = q + n + 1 by omega]
            generalize (s.take (q + n)).drop q = X at *
            have HG := Lib.hid hg
            have HW : Hid (Ending.returned (.tuple #[.string (bs X), .int .i64 ((q : Int) + (n : Int) + 1), .int .i64 0]) = Ending.returned (.tuple #[vs (gX R), .int .i64 (gQ R), .int .i64 (gE R)])) := by
              show _ = _
              rw [hg]
              unfold gX gQ gE
              go_num
            clear hg hl
            rcases hn0 with hn0 | ⟨hn0, hn1⟩
            · go_wp2_with fail
              go_ret3
              exact ⟨HW.out, rfl⟩
            · go_wp2_with fail
              go_ret3
              exact ⟨HW.out, rfl⟩
          · rw [if_pos (by simpa using h3)] at hg
            have hg := HR.out.trans (by rw [hg])
            have hc : ((c.toNat : Int) != 44) = true := by
              simp
              intro h
              exact h3 (UInt8.toNat_inj.1 (by simpa using (by omega : c.toNat = 44)))
            subst hg
            clear HR hl h3
            rcases hn0 with hn0 | ⟨hn0, hn1⟩
            · go_wp2_with fail
              go_ret3
              exact ⟨rfl, rfl⟩
            · go_wp2_with fail
              go_ret3
              exact ⟨rfl, rfl⟩
    · have hg := HR.out.trans (by rw [get1_eqE s k top.toNat x hl])
      have hx0' : ((x : Int) != 0) = true := by simp; omega
      subst hg
      clear hl HR hx0
      go_wp2_with fail
      go_ret3
      exact ⟨rfl, rfl⟩

set_option maxHeartbeats 4000000 in
theorem rAll_any (s : Bs) (w : World) (hs : s.length ≤ 1000000) :
    Calls Tryz.prog 21 #[vs s] w (AllPost s w) := by
  have hz := bs_size s
  have hmade : Txs w.heap.size (w.alloc (.cells #[] 9)) (.slice (some ⟨w.heap.size, 0, none⟩) 0 0) [] := World.ownsRow_made w #[] 0 (Nat.le_refl _) (by decide) (by simp)
  go_enter Tryz.func21, Tryz.ntmps21
  go_wp2_with fail
  go_loopw [4, 5] (fun o i wr => ∃ (p : Nat) (l : List Bs), p ≤ s.length ∧ i = .int .i64 p ∧ l.length ≤ p ∧ Txs w.heap.size wr o l ∧ Below w.heap.size w wr ∧ AllRel s p l) (fun _ i _ => s.length - (RowKit.intOf i).toNat)
  case atStart => exact ⟨0, [], Nat.zero_le _, rfl, Nat.le_refl _, hmade, (Below.refl _ _).alloc (Nat.le_refl _) _, AllRel.start s⟩
  case round =>
    obtain ⟨p, l, hp, rfl, hll, ho, hbel, hr⟩ := hrel
    have hle := hbel.size
    clear hmade
    by_cases hlt : p < s.length
    · have hpi : (p : Int) < ((bs s).size : Int) := by omega
      have HC := Lib.hid (rGet_any s p 999999 wr (by omega) ⟨by omega, by omega⟩ ⟨by omega, by omega⟩)
      have HR := Lib.hid hr
      have HO := Lib.hid ho
      clear hr ho
      match hgr : getR s p 999999 with
      | .error y =>
        have hy := getR_err hgr
        rw [hgr] at HC
        have hy0 : ((y : Int) != 0) = true := by simp; omega
        have HQ := Lib.hid (AllRel.err HR.out hlt hgr)
        clear hgr hy
        go_wp2_with fail
        refine HC.out.mono ?_
        rintro e w2 ⟨rfl, rfl⟩
        unfold gX gQ gE
        go_wp2_with fail
        go_ret2
        exact ⟨hbel, .slice none 0 0, by rw [HQ.out.2]; rfl, by rw [HQ.out.1]; exact Row.nil _ _ _ _ _ (Nat.zero_le _)⟩
      | .ok (x, q) =>
        have HQ := Lib.hid (AllRel.step HR.out hp hgr)
        obtain ⟨q1, q2, _⟩ := getR_ok hp hgr
        rw [hgr] at HC
        clear hgr
        go_wp2_with fail
        refine HC.out.mono ?_
        rintro e w2 ⟨rfl, rfl⟩
        unfold gX gQ gE
        go_wp2_with (at_builtin; refine app_text rfl (.tmp 24) (.tmp 26) rfl w.heap.size _ l x rfl rfl HO.out hle (by omega) ?_; intro v' w4 h8 h9 h10)
        go_roundw
        case rel => exact ⟨q, l ++ [x], q2, rfl, by simp; omega, h8, hbel.trans h9, HQ.out⟩
        case measure => simp [RowKit.intOf]; omega
    · obtain rfl : p = s.length := by omega
      have HQ := Lib.hid (AllRel.stop hr)
      clear hr
      go_wp2_with fail
      go_ret2
      exact ⟨hbel, _, by rw [HQ.out.2]; rfl, by rw [HQ.out.1]; exact ho.row⟩
end Go.Proofs.YtiogmegdkfnkkaaGreatDoor
namespace Go.Proofs.YtiogmegdkfnkkaaGreatDoor
open Go.RowKit Go.Lib Go.Sort Tx

theorem ofNat_int (n : Nat) (h : n < 256) : ((UInt8.ofNat n).toNat : Int) = (n : Int) := by
  have : (UInt8.ofNat n).toNat = n := by simp; omega
  rw [this]
set_option maxHeartbeats 2000000 in
set_option maxRecDepth 20000 in
theorem digits_any : ∀ (n : Nat) (w : World), n ≤ 1000000000 →
    Calls Tryz.prog 32 #[.int .i64 n] w fun e w' => e = .returned (vs (Lib.decDigits n)) ∧ Below w.heap.size w w' := by
  intro n
  induction n using Nat.strongRecOn with
  | _ n ih =>
    intro w hn
    have hm : Int.tmod (n : Int) 10 = ((n % 10 : Nat) : Int) := by rw [Int.tmod_eq_emod_of_nonneg (by omega)]; omega
    have hdv : Int.tdiv (n : Int) 10 = ((n / 10 : Nat) : Int) := by rw [Int.tdiv_eq_ediv_of_nonneg (by omega)]; omega
    have hob := one_byte w _ rfl (48 + ((n % 10 : Nat) : Int)) (UInt8.ofNat (48 + n % 10)) (by rw [ofNat_int _ (by omega)]; omega)
    have hr1 : (n % 10 : Nat) < 10 := Nat.mod_lt _ (by omega)
    have hr2 : (n : Int) % 10 = ((n % 10 : Nat) : Int) := by omega
    have hr3 : (n : Int) / 10 = ((n / 10 : Nat) : Int) := by omega
    by_cases h : n < 10
    · have h' : (n : Int) < 10 := by omega
      have HD : Hid (Lib.decDigits n = [UInt8.ofNat (48 + n % 10)]) := Lib.hid (by rw [Lib.decDigits, dif_pos h, Nat.mod_eq_of_lt h])
      clear ih hdv hr3
      generalize UInt8.ofNat (48 + n % 10) = c at *
      generalize n % 10 = r at *
      go_enter Tryz.func32, Tryz.ntmps32
      go_wp2_with fail
      go_ret
      exact ⟨by rw [HD.out]; rfl, (Below.refl _ _).alloc (Nat.le_refl _) _⟩
    · have h' : (10 : Int) ≤ (n : Int) := by omega
      have HD : Hid (Lib.decDigits n = Lib.decDigits (n / 10) ++ [UInt8.ofNat (48 + n % 10)]) := Lib.hid (by rw [Lib.decDigits, dif_neg h])
      have HI := Lib.hid (ih (n / 10) (by omega))
      have hl := dig_len (n / 10) (by omega)
      have hle : n / 10 ≤ 1000000000 := by omega
      clear ih
      generalize UInt8.ofNat (48 + n % 10) = c at *
      generalize n % 10 = r at *
      generalize n / 10 = q at *
      have hl2 : (bs (Lib.decDigits q)).size ≤ 10 := by rw [bs_size]; exact hl
      have HW : Hid (bs (Lib.decDigits n) = bs (Lib.decDigits q) ++ bs [c]) := Lib.hid (by rw [HD.out, bs_append])
      have hl3 : (bs [c]).size = 1 := by rw [bs_size]; rfl
      go_enter Tryz.func32, Tryz.ntmps32
      go_wp2_with fail
      refine (HI.out _ hle).mono ?_
      rintro e w1 ⟨rfl, hb⟩
      go_wp2_with fail
      go_ret
      exact ⟨by show _ = Ending.returned (.string (bs (Lib.decDigits n))); rw [HW.out]; rfl, below_via ((Below.refl _ _).alloc (Nat.le_refl _) _) hb⟩

set_option maxHeartbeats 2000000 in
theorem rPut_any (s : Bs) (w : World) (hs : s.length ≤ 1000000000) :
    Calls Tryz.prog 16 #[vs s] w fun e w' => e = .returned (vs (Wr.put s)) ∧ Below w.heap.size w w' := by
  have hz := bs_size s
  have HC := Lib.hid (digits_any s.length w hs)
  have hd := dig_len s.length hs
  have HP : Hid (Wr.put s = Lib.decDigits s.length ++ 58 :: (s ++ [44])) := Lib.hid rfl
  generalize Lib.decDigits s.length = d at *
  have hdz : (bs d).size = d.length := bs_size d
  obtain ⟨T1, hT1⟩ : ∃ T, T = d ++ [58] := ⟨_, rfl⟩
  obtain ⟨T2, hT2⟩ : ∃ T, T = T1 ++ s := ⟨_, rfl⟩
  obtain ⟨T3, hT3⟩ : ∃ T, T = T2 ++ [44] := ⟨_, rfl⟩
  have o1 : bs d ++ (⟨#[58]⟩ : ByteArray) = bs T1 := by show bs d ++ bs [58] = _; rw [hT1, bs_append]
  have o2 : bs T1 ++ bs s = bs T2 := by rw [hT2, bs_append]
  have o3 : bs T2 ++ (⟨#[44]⟩ : ByteArray) = bs T3 := by show bs T2 ++ bs [44] = _; rw [hT3, bs_append]
  have l1 : (bs T1).size = d.length + 1 := by rw [bs_size, hT1]; simp
  have l2 : (bs T2).size = d.length + 1 + s.length := by rw [bs_size, hT2, hT1]; simp; omega
  have HE : Hid (T3 = Wr.put s) := Lib.hid (by rw [HP.out, hT3, hT2, hT1]; simp)
  clear hT1 hT2 hT3 HP
  go_enter Tryz.func16, Tryz.ntmps16
  go_wp2_with fail
  refine HC.out.mono ?_
  rintro e w1 ⟨rfl, hb⟩
  go_wp2_with fail
  go_ret
  exact ⟨by rw [HE.out]; rfl, hb⟩
end Go.Proofs.YtiogmegdkfnkkaaGreatDoor
namespace Go.Proofs.YtiogmegdkfnkkaaGreatDoor
open Go.RowKit Tx

attribute [local go_sem ↓] Go.wp_at_zero Go.wp_at_succ
set_option maxRecDepth 100000 in
set_option maxHeartbeats 4000000 in
theorem rFiles_any (v : Value) (l : List Wr.F) (w : World) (hr : RowC 2 ff w w.heap.size v l) (hl : (Wr.files l).length ≤ 10000000) :
    Calls Tryz.prog 33 #[v] w fun e w' => e = .returned (vs (Wr.files l)) ∧ Below w.heap.size w w' := by
  obtain ⟨A, cap, rfl, h1, h2, h3⟩ := hr.shape
  have HC := Lib.hid h3
  clear h3 hr
  go_enter Tryz.func33, Tryz.ntmps33
  go_wp2_with fail
  go_loopw [3, 4] (fun s i wr => ∃ k : Nat, k ≤ l.length ∧ i = .int .i64 k ∧ s = .string (bs (Wr.files (l.take k))) ∧ Below w.heap.size w wr) (fun _ i _ => l.length - (RowKit.intOf i).toNat)
  case atStart => exact ⟨0, Nat.zero_le _, rfl, rfl, Below.refl _ _⟩
  case round =>
    obtain ⟨k, hk, rfl, rfl, hbel⟩ := hrel
    have hle := hbel.size
    by_cases hlt : k < l.length
    · have hi : (k : Int) < (l.length : Int) := by omega
      have hi0 : (0 : Int) ≤ (k : Int) := by omega
      obtain ⟨b, off, rfl, hbl, hc⟩ := HC.out (by rintro rfl; simp at hlt)
      obtain ⟨c0, c1⟩ := ff_cells (fun i u hu => (hbel.cell (p := ⟨b, off + k * 2 + i, none⟩) hbl).trans (hc k hlt i u hu))
      have hle1 := files_le l (k + 1)
      have hft := files_take l k hlt
      rw [hft] at hle1
      have HF := Lib.hid hft
      clear hft hc
      generalize l[k] = f at *
      obtain ⟨x, y⟩ := f
      simp only at c0 c1 HF hle1
      have HS := Lib.hid (S2.of c0 c1)
      have hpx : x.length ≤ (Wr.put x).length := by simp [Wr.put]; omega
      have hpy : y.length ≤ (Wr.put y).length := by simp [Wr.put]; omega
      have HX := Lib.hid (fun wx => rPut_any x wx)
      have HY := Lib.hid (fun wx => rPut_any y wx)
      generalize Wr.put x = px at *
      generalize Wr.put y = py at *
      obtain ⟨acc, hacc⟩ : ∃ acc, acc = Wr.files (l.take k) := ⟨_, rfl⟩
      rw [← hacc] at hle1 ⊢
      have HAC := Lib.hid hacc
      clear hacc
      obtain ⟨T1, hT1⟩ : ∃ T, T = px ++ py := ⟨_, rfl⟩
      obtain ⟨T2, hT2⟩ : ∃ T, T = acc ++ T1 := ⟨_, rfl⟩
      simp only [List.length_append] at hle1
      have o1 : bs px ++ bs py = bs T1 := by rw [hT1, bs_append]
      have o2 : bs acc ++ bs T1 = bs T2 := by rw [hT2, bs_append]
      have p1 : ¬ (9223372036854775807 < (bs px).size + (bs py).size) := by rw [bs_size, bs_size]; omega
      have p2 : ¬ (9223372036854775807 < (bs acc).size + (bs T1).size) := by rw [bs_size, bs_size, hT1]; simp only [List.length_append]; omega
      have HW : Hid (Wr.files (l.take (k + 1)) = T2) := Lib.hid (by rw [HF.out, ← HAC.out, hT2, hT1])
      have hx1 : x.length ≤ 1000000000 := by omega
      have hy1 : y.length ≤ 1000000000 := by omega
      clear hT1 hT2 hle1 hpx hpy c0 c1
      obtain ⟨wq, hwq⟩ : ∃ wq, wq = wr := ⟨_, rfl⟩
      go_upto_region 5 with fail
      go_region_held3 (fun wx => wx.cell? ⟨b, off + k * 2, none⟩ = some (.string (bs x)) ∧ wx.cell? ⟨b, off + k * 2 + 1, none⟩ = some (.string (bs y)) ∧ Below wr.heap.size wr wx) (first
          | (exact HS.out _ k1)
          | (exact HS.out _ (Below.refl _ _).drew)
          | (exact HS.out _ (Below.refl _ _))) (first
        | (go_at_call 16; have y9 := k1; (first | refine (HY.out _ hy1).mono ?_ | refine (HX.out _ hx1).mono ?_); rintro e x1 ⟨rfl, b1⟩
           have k1 : Below wr.heap.size wr x1 := below_via (S2.bel (by assumption)) b1
           clear b1; dsimp only)
        | (go_at_call 16; (first | refine (HX.out _ hx1).mono ?_ | refine (HY.out _ hy1).mono ?_); rintro e x1 ⟨rfl, b1⟩
           have k1 : Below wr.heap.size wr x1 := below_via (S2.bel (by assumption)) b1
           clear b1; dsimp only))
      all_goals (go_wp2_with fail)
      all_goals go_roundw
      all_goals first
        | (case rel => exact ⟨k + 1, by omega, by go_num, by rw [HW.out], below_via hbel k1⟩)
        | (case measure => simp [RowKit.intOf]; omega)
    · obtain rfl : k = l.length := by omega
      have HT : Hid (l.take l.length = l) := Lib.hid (List.take_length)
      go_wp2_with fail
      go_ret
      exact ⟨by rw [HT.out]; rfl, hbel⟩

end Go.Proofs.YtiogmegdkfnkkaaGreatDoor
namespace Go.Proofs.YtiogmegdkfnkkaaGreatDoor
open Go.RowKit Tx

set_option maxHeartbeats 4000000 in
theorem rRight_any (v : Value) (l : List Wr.F) (w : World) (hr : RowC 2 ff w w.heap.size v l) (ok : ∀ f ∈ l, FOk f) :
    Calls Tryz.prog 40 #[v] w fun e w' => e = .returned (.bool (Wr.right l)) ∧ ∃ n, w' = w.drewN n := by
  obtain ⟨A, cap, rfl, h1, h2, h3⟩ := hr.shape
  have HC := Lib.hid h3
  have OK := Lib.hid ok
  clear h3 ok hr
  go_enter Tryz.func40, Tryz.ntmps40
  go_wp2_with fail
  go_loopw [3] (fun i wr => ∃ k m : Nat, k ≤ l.length ∧ i = .int .i64 k ∧ (∀ j < k, Wr.stepOk l j = true) ∧ wr = w.drewN m) (fun i _ => l.length - (RowKit.intOf i).toNat)
  case atStart => exact ⟨0, 0, Nat.zero_le _, rfl, fun j hj => absurd hj (Nat.not_lt_zero _), rfl⟩
  case round =>
    obtain ⟨k, m, hk, rfl, hst, rfl⟩ := hrel
    have HS := Lib.hid hst
    clear hst
    by_cases hlt : k < l.length
    · have hi : (k : Int) < (l.length : Int) := by omega
      obtain ⟨b, off, rfl, hbl, hc⟩ := HC.out (by rintro rfl; simp at hlt)
      obtain ⟨c0, c1⟩ := ff_cells (fun i u hu => hc k hlt i u hu)
      have HCC := Lib.hid hc
      clear hc
      have hok := OK.out _ (List.getElem_mem hlt)
      have hse := Wr.stepOk_at l k hlt
      have HSY := Lib.hid (step_yes l k hlt HS.out)
      have HNO := Lib.hid (Wr.right_no l k hlt)
      obtain ⟨f, hf⟩ : ∃ f, f = l[k] := ⟨_, rfl⟩
      rw [← hf] at hok hse c0 c1
      clear hf
      obtain ⟨n, t⟩ := f
      obtain ⟨ok1, ok2⟩ := hok
      simp only at ok1 ok2 c0 c1
      have hz1 := bs_size n
      have hz2 := bs_size t
      simp only [maxLen] at ok1 ok2
      have hfile : Wr.fileOk (n, t) = (Wr.nameOk n && decide (t.length ≤ 4000)) := rfl
      rw [hfile] at hse
      simp only at hse
      by_cases hn : Wr.nameOk n = true
      · rw [hn, Bool.true_and] at hse
        by_cases ht : t.length ≤ 4000
        · rw [decide_eq_true ht, Bool.true_and] at hse
          have ht' : decide ((4000 : Int) < ((bs t).size : Int)) = false := decide_eq_false (by omega)
          have ht2 : decide ((4000 : Int) < (t.length : Int)) = false := decide_eq_false (by omega)
          have ht3 : decide (4000 < t.length) = false := decide_eq_false (by omega)
          have ht4 : t.length ≤ 4000 := ht
          rcases Nat.eq_zero_or_pos k with hk0 | hk0
          · have HS2 := Lib.hid (HSY.out (by rw [hse, hk0]; rfl))
            clear hse
            subst hk0
            simp only [Nat.zero_mul, Nat.add_zero] at c0 c1
            go_wp2_with (go_at_call 51; refine (rName_b n _ (by simp only [maxLen]; omega) hn).mono ?_; rintro e w' ⟨rfl, rfl⟩)
            go_quiet (fail)
            go_wp2_with fail
            go_roundw
            case rel => exact ⟨1, _, by omega, rfl, HS2.out, by first | rfl | exact World.drewN_drewN _ _ _⟩
            case measure => simp [RowKit.intOf]; omega
          · obtain ⟨j, hj⟩ : ∃ j, k = j + 1 := ⟨k - 1, by omega⟩
            have hjl : j < l.length := by omega
            have hjb : Wr.befOk l k n = Wr.less l[j].1 n := by rw [hj]; exact Wr.befOk_at l j hjl n
            rw [hjb] at hse
            obtain ⟨d0, d1⟩ := ff_cells (fun i u hu => HCC.out j hjl i u hu)
            generalize l[j] = pf at *
            obtain ⟨pn, pt⟩ := pf
            simp only at d0 d1 hse
            have hkj : (k : Int) - 1 = (j : Int) := by omega
            have i0 : (0 : Int) ≤ (j : Int) := by omega
            have i1 : (j : Int) < (l.length : Int) := by omega
            have i2 : (0 : Int) < (k : Int) := by omega
            have hb0 : Op.bytesLess (bs pn).toList (bs n).toList = Wr.less pn n := by rw [toListB, toListB]
            have hwj : IntKind.i64.wrap ((k : Int) - 1) = (j : Int) := by rw [hkj]; exact IntWalk.i64_in _ (by omega)
            clear hjb hj
            by_cases hl : Wr.less pn n = true
            · rw [hl] at hb0 hse
              have HS2 := Lib.hid (HSY.out hse)
              clear hl hse
              go_wp2_with (go_at_call 51; refine (rName_b n _ (by simp only [maxLen]; omega) hn).mono ?_; rintro e w' ⟨rfl, rfl⟩)
              go_quiet (fail)
              go_wp2_with fail
              go_roundw
              case rel => exact ⟨k + 1, _, by omega, by go_num, HS2.out, by first | rfl | exact World.drewN_drewN _ _ _⟩
              case measure => simp [RowKit.intOf]; omega
            · have hl : Wr.less pn n = false := by simpa using hl
              rw [hl] at hb0 hse
              have HN2 := Lib.hid (HNO.out hse)
              clear hl hse
              go_wp2_with (go_at_call 51; refine (rName_b n _ (by simp only [maxLen]; omega) hn).mono ?_; rintro e w' ⟨rfl, rfl⟩)
              go_quiet (fail)
              go_wp2_with fail
              go_ret
              exact ⟨by rw [HN2.out]; rfl, _, by first | rfl | exact World.drewN_drewN _ _ _⟩
        · rw [decide_eq_false ht, Bool.false_and] at hse
          have HN2 := Lib.hid (HNO.out hse)
          have ht' : decide ((4000 : Int) < ((bs t).size : Int)) = true := decide_eq_true (by omega)
          have ht2 : decide ((4000 : Int) < (t.length : Int)) = true := decide_eq_true (by omega)
          have ht3 : decide (4000 < t.length) = true := decide_eq_true (by omega)
          clear hse
          go_wp2_with (go_at_call 51; refine (rName_b n _ (by simp only [maxLen]; omega) hn).mono ?_; rintro e w' ⟨rfl, rfl⟩)
          go_ret
          exact ⟨by rw [HN2.out]; rfl, _, by first | rfl | exact World.drewN_drewN _ _ _⟩
      · have hn : Wr.nameOk n = false := by simpa using hn
        rw [hn, Bool.false_and, Bool.false_and] at hse
        have HN2 := Lib.hid (HNO.out hse)
        clear hse
        go_wp2_with (go_at_call 51; refine (rName_b n _ (by simp only [maxLen]; omega) hn).mono ?_; rintro e w' ⟨rfl, rfl⟩)
        go_ret
        exact ⟨by rw [HN2.out]; rfl, _, by first | rfl | exact World.drewN_drewN _ _ _⟩
    · obtain rfl : k = l.length := by omega
      have HE := Lib.hid (Wr.right_end l HS.out)
      by_cases h32 : l.length ≤ 32
      · have HF : Hid (Wr.right l = true) := Lib.hid (by rw [HE.out]; exact decide_eq_true h32)
        have h4 : decide ((l.length : Int) ≤ 32) = true := decide_eq_true (by omega)
        go_wp2_with fail
        go_ret
        exact ⟨by rw [HF.out]; first | rfl | (simp; omega), _, rfl⟩
      · have HF : Hid (Wr.right l = false) := Lib.hid (by rw [HE.out]; exact decide_eq_false h32)
        have h4 : decide ((l.length : Int) ≤ 32) = false := decide_eq_false (by omega)
        go_wp2_with fail
        go_ret
        exact ⟨by rw [HF.out]; first | rfl | (simp; omega), _, rfl⟩
end Go.Proofs.YtiogmegdkfnkkaaGreatDoor
namespace Go.Proofs.YtiogmegdkfnkkaaGreatDoor
open Go.RowKit Tx

set_option maxRecDepth 100000 in
set_option maxHeartbeats 4000000 in
theorem rParse_any (s : Bs) (w : World) (hs : s.length ≤ 1000000) :
    Calls Tryz.prog 38 #[vs s] w (ParsePost s w) := by
  have HA := Lib.hid (rAll_any s w hs)
  go_enter Tryz.func38, Tryz.ntmps38
  go_wp2_with fail
  refine HA.out.mono ?_
  rintro e w1 ⟨hb, v, rfl, hrow⟩
  match hall : Wr.all s with
  | .error y =>
    have hy := all_errne s s.length y (Nat.le_refl _) hall
    have hye : allE s = y := by unfold allE; rw [hall]
    have hyl : allL s = [] := by unfold allL; rw [hall]
    have HP : Hid (parE s = y ∧ parL s = []) := Lib.hid (by unfold parE parL Wr.parse; rw [hall]; exact ⟨rfl, rfl⟩)
    have hy0 : ((y : Int) != 0) = true := by simp; omega
    rw [hye]
    obtain ⟨A, cap, rfl, _⟩ := hrow.shape
    clear hrow hye hyl hall hy
    go_wp2_with fail
    go_ret2
    exact ⟨hb, .slice none 0 0, by rw [HP.out.1]; rfl, by rw [HP.out.2]; exact row_none _ _⟩
  | .ok L =>
    obtain ⟨hL1, hL2⟩ := Wr.all_inv s.length s L (Nat.le_refl _) hall
    have hll := puts_len L
    rw [← hL1] at hll
    have hye : allE s = 0 := by unfold allE; rw [hall]
    have hyl : allL s = L := by unfold allL; rw [hall]
    rw [hye]
    rw [hyl] at hrow
    have HP : Hid (Wr.parse s = if L.length % 2 = 1 then .error 5 else if Wr.right (Wr.pairs L) = true then .ok (Wr.pairs L) else .error 5) := Lib.hid (by unfold Wr.parse; rw [hall])
    have HL2 := Lib.hid hL2
    obtain ⟨A, cap, rfl, q1, q2, q3⟩ := hrow.shape
    have HC := Lib.hid q3
    clear hrow hye hyl hall hL1 hL2 q3
    have HPL := Lib.hid (pairs_len L)
    obtain ⟨wq, rfl⟩ : ∃ wq, wq = w1 := ⟨_, rfl⟩
    have hle1 := hb.size
    have hmade := OwnC.made 46 2 ff wq.heap.size wq (Nat.le_refl _)
    go_wp2_with fail
    go_loopw [6, 7] (fun o i wr => ∃ j : Nat, 2 * j ≤ L.length ∧ i = .int .i64 (2 * j : Nat) ∧ OwnC 46 2 ff wq.heap.size wr o ((Wr.pairs L).take j) ∧ Below wq.heap.size wq wr) (fun _ i _ => L.length + 1 - (RowKit.intOf i).toNat)
    case atStart => exact ⟨0, by omega, rfl, hmade, (Below.refl _ _).alloc (Nat.le_refl _) _⟩
    case round =>
      clear hmade
      obtain ⟨j, hj, rfl, hown, hbel⟩ := hrel
      have hle := hbel.size
      have hol : ((Wr.pairs L).take j).length ≤ j := by simp; omega
      by_cases h21 : 2 * j + 1 < L.length
      · have hlt : 2 * j < L.length := by omega
        obtain ⟨b, off, rfl, hbl, hc⟩ := HC.out (by rintro rfl; simp at hlt)
        have c0 := (hbel.cell (p := ⟨b, off + 2 * j, none⟩) hbl).trans (hc (2 * j) hlt)
        have c1 := (hbel.cell (p := ⟨b, off + (2 * j + 1), none⟩) hbl).trans (hc (2 * j + 1) h21)
        have HS := Lib.hid (pairs_step L j h21)
        generalize L[2 * j] = x at *
        generalize L[2 * j + 1] = y at *
        obtain ⟨k, hk⟩ : ∃ k, k = 2 * j := ⟨_, rfl⟩
        have hjk : j < 1000000 := by omega
        rw [← hk] at c0 c1 hlt h21 hj ⊢
        have HK := Lib.hid hk
        have hkj : k ≤ 1000000 := by omega
        have HO := Lib.hid hown
        clear hk hc hown
        have i0 : (0 : Int) ≤ (k : Int) := by omega
        have i1 : (k : Int) < (L.length : Int) := by omega
        have i2 : (k : Int) + 1 < (L.length : Int) := by omega
        have i3 : (0 : Int) ≤ (k : Int) + 1 := by omega
        have hw : IntKind.i64.wrap ((k : Int) + 1) = (k : Int) + 1 := IntWalk.i64_in _ (by omega)
        have ht : ((k : Int) + 1).toNat = k + 1 := by omega
        go_upto_region 8 with fail
        go_region_held3 (fun wx => wx.cell? ⟨b, off + k, none⟩ = some (.string (bs x)) ∧ wx.cell? ⟨b, off + (k + 1), none⟩ = some (.string (bs y))) (first | go_keep | exact ⟨(h9.cell (p := ⟨b, off + k, none⟩) hbl).trans (Lib.cell?_alloc_marked _ c0), (h9.cell (p := ⟨b, off + (k + 1), none⟩) hbl).trans (Lib.cell?_alloc_marked _ c1)⟩) ((refine step_file (by rfl) (.tmp 24) (.tmp 35) (by rfl) wq.heap.size _ ((Wr.pairs L).take j) (x, y) (by rfl) wr.heap.size (by rfl) (heap_alloc_new _ _) (HO.out.below ((Below.refl _ _).alloc (Nat.le_refl _) _).drew) (by simp; omega) (by omega) ?_; intro v' w4 h8 h9 h10))
        go_wp2_with fail
        go_roundw
        case rel => exact ⟨j + 1, by have := HK.out; omega, by have := HK.out; congr 1; omega, by rw [HS.out]; exact h8, (hbel.alloc hle _).drew.trans h9⟩
        case measure => simp [RowKit.intOf]; omega
      · have hjl : (Wr.pairs L).length ≤ j := by have := HPL.out; omega
        have HT : Hid ((Wr.pairs L).take j = Wr.pairs L) := Lib.hid (List.take_of_length_le hjl)
        rw [HT.out] at hown
        obtain ⟨k, hk⟩ : ∃ k, k = 2 * j := ⟨_, rfl⟩
        have hnl : ¬ k + 1 < L.length := by omega
        have hkj : k ≤ 1000000 := by omega
        have hnli : (L.length : Int) ≤ (k : Int) + 1 := by omega
        rw [← hk]
        clear hk h21 hjl
        have HR := Lib.hid (rRight_any _ (Wr.pairs L) wr (hown.rowC ff_length) (fun f hf => by
          obtain ⟨h1, h2⟩ := pairs_mem L f hf
          have h3 := HL2.out _ h1
          have h4 := HL2.out _ h2
          exact ⟨by simp only [maxLen]; omega, by simp only [maxLen]; omega⟩))
        have HO := Lib.hid hown
        clear hown
        by_cases hodd : L.length % 2 = 1
        · have HQ : Hid (parE s = 5 ∧ parL s = []) := Lib.hid (by unfold parE parL; rw [HP.out, if_pos hodd]; exact ⟨rfl, rfl⟩)
          have ho : (((L.length : Int).tmod 2) == 1) = true := by
            rw [Int.tmod_eq_emod_of_nonneg (by omega)]
            have : ((L.length : Int) % 2) = 1 := by omega
            rw [this]; rfl
          have ho2 : ((L.length : Int) % 2 == 1) = true := by
            have : ((L.length : Int) % 2) = 1 := by omega
            rw [this]; rfl
          clear hodd
          go_wp2_with fail
          go_ret2
          exact ⟨below_via hb hbel, .slice none 0 0, by rw [HQ.out.1]; rfl, by rw [HQ.out.2]; exact row_none _ _⟩
        · have ho : (((L.length : Int).tmod 2) == 1) = false := by
            rw [Int.tmod_eq_emod_of_nonneg (by omega)]
            have : ((L.length : Int) % 2) = 0 := by omega
            rw [this]; rfl
          have ho2 : ((L.length : Int) % 2 == 1) = false := by
            have : ((L.length : Int) % 2) = 0 := by omega
            rw [this]; rfl
          have hod := Lib.hid hodd
          clear hodd
          by_cases hrt : Wr.right (Wr.pairs L) = true
          · have HQ : Hid (parE s = 0 ∧ parL s = Wr.pairs L) := Lib.hid (by unfold parE parL; rw [HP.out, if_neg hod.out, if_pos hrt]; exact ⟨rfl, rfl⟩)
            rw [hrt] at HR
            clear hrt
            go_wp2_with fail
            refine HR.out.mono ?_
            rintro e w3 ⟨rfl, n, rfl⟩
            go_wp2_with fail
            go_ret2
            exact ⟨below_via hb (below_drewN hbel n), _, by rw [HQ.out.1]; rfl, by rw [HQ.out.2]; exact (HO.out.drewN n).rowC ff_length⟩
          · have HQ : Hid (parE s = 5 ∧ parL s = []) := Lib.hid (by unfold parE parL; rw [HP.out, if_neg hod.out, if_neg hrt]; exact ⟨rfl, rfl⟩)
            have hrt : Wr.right (Wr.pairs L) = false := by simpa using hrt
            rw [hrt] at HR
            clear hrt
            go_wp2_with fail
            refine HR.out.mono ?_
            rintro e w3 ⟨rfl, n, rfl⟩
            go_wp2_with fail
            go_ret2
            exact ⟨below_via hb (below_drewN hbel n), .slice none 0 0, by rw [HQ.out.1]; rfl, by rw [HQ.out.2]; exact row_none _ _⟩
end Go.Proofs.YtiogmegdkfnkkaaGreatDoor
