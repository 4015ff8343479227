/- The reference's Get and All. -/
import Derived.Test.YtmgfbmkfgbildaaDoorWrW3
namespace Go.Proofs.YtmgfbmkfgbildaaDoor
open Go.RowKit Go.Lib Go.Sort Tx

set_option maxHeartbeats 4000000 in
theorem rGet_any (s : Bs) (a top : Int) (w : World) (hs : s.length ≤ 1000000000) (ha : I64 a) (ht : I64 top) :
    Calls Tryd.prog 10 #[vs s, .int .i64 a, .int .i64 top] w fun e w' => e = .returned (.tuple #[vs (gX (getR s a top)), .int .i64 (gQ (getR s a top)), .int .i64 (gE (getR s a top))]) ∧ w = w' := by
  have hz := bs_size s
  obtain ⟨ha1, ha2⟩ := ha
  obtain ⟨ht1, ht2⟩ := ht
  obtain ⟨R, hR⟩ : ∃ R, R = getR s a top := ⟨_, rfl⟩
  rw [← hR]
  by_cases h0 : a < 0 ∨ (s.length : Int) < a
  · have hg : R = .error 1 := by rw [hR]; unfold getR; rw [if_pos h0]
    clear hR
    subst hg
    by_cases h1 : a < 0
    · go_enter Tryd.func10, Tryd.ntmps10
      go_wp2_with fail
      go_ret3
      exact ⟨rfl, rfl⟩
    · have h2 : (0 : Int) ≤ a := by omega
      have h3 : ((bs s).size : Int) < a := by omega
      go_enter Tryd.func10, Tryd.ntmps10
      go_wp2_with fail
      go_ret3
      exact ⟨rfl, rfl⟩
  · obtain ⟨k, rfl⟩ : ∃ k : Nat, a = (k : Int) := ⟨a.toNat, by omega⟩
    have hk : k ≤ s.length := by omega
    have i1 : (0 : Int) ≤ (k : Int) := by omega
    have i2 : (k : Int) ≤ ((bs s).size : Int) := by omega
    have HR := Lib.hid (hR.trans (getR_at hk))
    have HL := Lib.hid (rlength_any s k w hk hs)
    clear hR h0
    go_enter Tryd.func10, Tryd.ntmps10
    go_wp2_with fail
    refine HL.out.mono ?_
    rintro e w1 ⟨rfl, ⟨n, q, hl, hn, hkq, hqs, rfl⟩ | ⟨x, hl, hx0, rfl⟩⟩
    · have hg := get1_eq s k n q top.toNat hl hqs
      have b0 : (q : Int) + (n : Int) ≤ 2000000000 := by omega
      have b1 : (0 : Int) ≤ (q : Int) + (n : Int) := by omega
      have b2 : (q : Int) ≤ ((bs s).size : Int) := by omega
      by_cases h1 : top.toNat < n
      · rw [if_pos h1] at hg
        have hg := HR.out.trans (by rw [hg])
        have h1' : top < (n : Int) := by omega
        have h1'' : (0 : Int) < (n : Int) := by omega
        subst hg
        clear HR hl
        go_wp2_with fail
        go_ret3
        exact ⟨rfl, rfl⟩
      · rw [if_neg h1] at hg
        have hn0 : (n : Int) ≤ 0 ∨ ((0 : Int) < (n : Int) ∧ (n : Int) ≤ top) := by omega
        by_cases h2 : s.length < q + n + 1
        · rw [if_pos h2] at hg
          have hg := HR.out.trans (by rw [hg])
          have h2' : ((bs s).size : Int) - (q : Int) < (n : Int) + 1 := by omega
          subst hg
          clear HR hl
          rcases hn0 with hn0 | ⟨hn0, hn1⟩
          · go_wp2_with fail
            go_ret3
            exact ⟨rfl, rfl⟩
          · go_wp2_with fail
            go_ret3
            exact ⟨rfl, rfl⟩
        · rw [if_neg h2] at hg
          have h2' : (n : Int) + 1 ≤ ((bs s).size : Int) - (q : Int) := by omega
          have hqn : q + n < s.length := by omega
          have hqb : q + n < (bs s).size := by omega
          obtain ⟨c, hc⟩ : ∃ c, s[q + n]? = some c := ⟨_, List.getElem?_eq_getElem hqn⟩
          have hgb : (bs s)[q + n]'hqb = c := by
            have := List.getElem?_eq_getElem hqn
            exact Option.some.inj (this.symm.trans hc)
          rw [hc] at hg
          clear hc
          have h3' : (q : Int) + (n : Int) < ((bs s).size : Int) := by omega
          have h5' : ((q : Int) + (n : Int)).toNat = q + n := by omega
          have hx := bs_extract' s q (q + n)
          by_cases h3 : c = 44
          · subst h3
            rw [if_neg (by simp)] at hg
            have hg : R = .ok ((s.take (q + n)).drop q, q + n + 1) := by
              rw [HR.out, hg]
              simp only [List.length_drop]
              rw [List.drop_take, show q + n - q = n by omega, show s.length - (s.length - (q + n + 1)) = q + n + 1 by omega]
            generalize (s.take (q + n)).drop q = X at *
            have HG := Lib.hid hg
            have HW : Hid (Ending.returned (.tuple #[.string (bs X), .int .i64 ((q : Int) + (n : Int) + 1), .int .i64 0]) = Ending.returned (.tuple #[vs (gX R), .int .i64 (gQ R), .int .i64 (gE R)])) := by
              show _ = _
              rw [hg]
              unfold gX gQ gE
              go_num
            clear hg hl
            rcases hn0 with hn0 | ⟨hn0, hn1⟩
            · go_wp2_with fail
              go_ret3
              exact ⟨HW.out, rfl⟩
            · go_wp2_with fail
              go_ret3
              exact ⟨HW.out, rfl⟩
          · rw [if_pos (by simpa using h3)] at hg
            have hg := HR.out.trans (by rw [hg])
            have hc : ((c.toNat : Int) != 44) = true := by
              simp
              intro h
              exact h3 (UInt8.toNat_inj.1 (by simpa using (by omega : c.toNat = 44)))
            subst hg
            clear HR hl h3
            rcases hn0 with hn0 | ⟨hn0, hn1⟩
            · go_wp2_with fail
              go_ret3
              exact ⟨rfl, rfl⟩
            · go_wp2_with fail
              go_ret3
              exact ⟨rfl, rfl⟩
    · have hg := HR.out.trans (by rw [get1_eqE s k top.toNat x hl])
      have hx0' : ((x : Int) != 0) = true := by simp; omega
      subst hg
      clear hl HR hx0
      go_wp2_with fail
      go_ret3
      exact ⟨rfl, rfl⟩

set_option maxHeartbeats 4000000 in
theorem rAll_any (s : Bs) (w : World) (hs : s.length ≤ 1000000) :
    Calls Tryd.prog 12 #[vs s] w (AllPost s w) := by
  have hz := bs_size s
  have hmade : Txs w.heap.size (w.alloc (.cells #[] 9)) (.slice (some ⟨w.heap.size, 0, none⟩) 0 0) [] := World.ownsRow_made w #[] 0 (Nat.le_refl _) (by decide) (by simp)
  go_enter Tryd.func12, Tryd.ntmps12
  go_wp2_with fail
  go_loopw [4, 5] (fun o i wr => ∃ (p : Nat) (l : List Bs), p ≤ s.length ∧ i = .int .i64 p ∧ l.length ≤ p ∧ Txs w.heap.size wr o l ∧ Below w.heap.size w wr ∧ AllRel s p l) (fun _ i _ => s.length - (intOf i).toNat)
  case atStart => exact ⟨0, [], Nat.zero_le _, rfl, Nat.le_refl _, hmade, (Below.refl _ _).alloc (Nat.le_refl _) _, AllRel.start s⟩
  case round =>
    obtain ⟨p, l, hp, rfl, hll, ho, hbel, hr⟩ := hrel
    have hle := hbel.size
    clear hmade
    by_cases hlt : p < s.length
    · have hpi : (p : Int) < ((bs s).size : Int) := by omega
      have HC := Lib.hid (rGet_any s p 999999 wr (by omega) ⟨by omega, by omega⟩ ⟨by omega, by omega⟩)
      have HR := Lib.hid hr
      have HO := Lib.hid ho
      clear hr ho
      match hgr : getR s p 999999 with
      | .error y =>
        have hy := getR_err hgr
        rw [hgr] at HC
        have hy0 : ((y : Int) != 0) = true := by simp; omega
        have HQ := Lib.hid (AllRel.err HR.out hlt hgr)
        clear hgr hy
        go_wp2_with fail
        refine HC.out.mono ?_
        rintro e w2 ⟨rfl, rfl⟩
        unfold gX gQ gE
        go_wp2_with fail
        go_ret2
        exact ⟨hbel, .slice none 0 0, by rw [HQ.out.2]; rfl, by rw [HQ.out.1]; exact Row.nil _ _ _ _ _ (Nat.zero_le _)⟩
      | .ok (x, q) =>
        have HQ := Lib.hid (AllRel.step HR.out hp hgr)
        obtain ⟨q1, q2, _⟩ := getR_ok hp hgr
        rw [hgr] at HC
        clear hgr
        go_wp2_with fail
        refine HC.out.mono ?_
        rintro e w2 ⟨rfl, rfl⟩
        unfold gX gQ gE
        go_wp2_with (at_builtin; refine app_text rfl (.tmp 24) (.tmp 26) rfl w.heap.size _ l x rfl rfl HO.out hle (by omega) ?_; intro v' w4 h8 h9 h10)
        go_roundw
        case rel => exact ⟨q, l ++ [x], q2, rfl, by simp; omega, h8, hbel.trans h9, HQ.out⟩
        case measure => simp [intOf]; omega
    · obtain rfl : p = s.length := by omega
      have HQ := Lib.hid (AllRel.stop hr)
      clear hr
      go_wp2_with fail
      go_ret2
      exact ⟨hbel, _, by rw [HQ.out.2]; rfl, by rw [HQ.out.1]; exact ho.row⟩
end Go.Proofs.YtmgfbmkfgbildaaDoor
