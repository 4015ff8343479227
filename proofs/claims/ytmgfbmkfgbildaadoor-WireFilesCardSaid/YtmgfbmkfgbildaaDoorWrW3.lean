/- wire.All; the reference's length, Get, All. -/
import Derived.Test.YtmgfbmkfgbildaaDoorWrW2
import Derived.Test.YtmgfbmkfgbildaaDoorTxs
namespace Go.Proofs.YtmgfbmkfgbildaaDoor
open Go.RowKit Go.Lib Go.Sort Tx

theorem len_err : ∀ (t : Wr.Bs) (i n x : Nat), Wr.len t i n = .error x → x = 3 ∨ x = 5 ∨ x = 6 := by
  intro t
  induction t with
  | nil => intro i n x h; simp [Wr.len] at h; omega
  | cons c t ih =>
    intro i n x h
    simp only [Wr.len] at h
    split at h
    · cases h
    · split at h
      · injection h with h; omega
      · split at h
        · injection h with h; omega
        · exact ih _ _ _ h
theorem get1_err (t : Wr.Bs) (top x : Nat) (h : Wr.get1 t top = .error x) : x = 3 ∨ x = 5 ∨ x = 6 := by
  unfold Wr.get1 at h
  split at h
  · next e he => injection h with h; subst h; exact len_err _ _ _ _ he
  · split at h
    · injection h with h; omega
    · split at h
      · injection h with h; omega
      · split at h
        · injection h with h; omega
        · cases h
theorem getR_err {s : Bs} {a top : Int} {y : Nat} (h : getR s a top = .error y) : y = 1 ∨ y = 3 ∨ y = 5 ∨ y = 6 := by
  unfold getR at h
  split at h
  · injection h with h; omega
  · split at h
    · next e he => injection h with h; subst h; have := get1_err _ _ _ he; omega
    · cases h
theorem getR_ok {s : Bs} {p : Nat} {top : Int} {x : Bs} {q : Nat} (hp : p ≤ s.length) (h : getR s p top = .ok (x, q)) : p < q ∧ q ≤ s.length ∧ Wr.get1 (s.drop p) top.toNat = .ok (x, s.drop q) ∧ s.drop p = Wr.put x ++ s.drop q ∧ x.length ≤ top.toNat ∧ x.length ≤ 999999 := by
  unfold getR at h
  rw [if_neg (by omega)] at h
  simp only [Int.toNat_natCast] at h
  split at h
  · cases h
  · next y r hg =>
    injection h with h
    injection h with h1 h2
    subst h1
    obtain ⟨h3, h4, h5⟩ := Wr.get1_inv _ _ _ _ hg
    have hl := congrArg List.length h3
    have h6 := Wr.put_len y
    simp only [List.length_drop, List.length_append] at hl
    have hr : r = s.drop q := by
      have h7 : (s.drop p).drop (Wr.put y).length = r := by rw [h3, List.drop_left]
      rw [List.drop_drop] at h7
      rw [← h7]
      congr 1
      omega
    rw [hr] at h3 hg
    exact ⟨by omega, by omega, hg, h3, h4, h5⟩
theorem getR_at {s : Bs} {p : Nat} {top : Int} (hp : p ≤ s.length) : getR s p top = match Wr.get1 (s.drop p) top.toNat with | .error e => .error e | .ok (x, r) => .ok (x, s.length - r.length) := by
  unfold getR
  rw [if_neg (by omega)]
  rfl

def allL (s : Bs) : List Bs := match Wr.all s with | .ok l => l | .error _ => []
def allE (s : Bs) : Nat := match Wr.all s with | .ok _ => 0 | .error e => e
def AllRel (s : Bs) (p : Nat) (l : List Bs) : Prop := Wr.all s = match Wr.all (s.drop p) with | .ok m => .ok (l ++ m) | .error e => .error e
theorem AllRel.start (s : Bs) : AllRel s 0 [] := by
  unfold AllRel
  rw [List.drop_zero]
  cases Wr.all s <;> rfl
theorem AllRel.step {s : Bs} {p : Nat} {l : List Bs} {x : Bs} {q : Nat} (h : AllRel s p l) (hp : p ≤ s.length) (hg : getR s p 999999 = .ok (x, q)) : AllRel s q (l ++ [x]) := by
  obtain ⟨h1, h2, h3, h4, h5⟩ := getR_ok hp hg
  unfold AllRel at *
  rw [h, Wr.all_ok _ _ _ h3]
  cases Wr.all (s.drop q) <;> simp
theorem AllRel.stop {s : Bs} {l : List Bs} (h : AllRel s s.length l) : allL s = l ∧ allE s = 0 := by
  unfold AllRel at h
  rw [List.drop_length, Wr.all_nil] at h
  simp only [List.append_nil] at h
  unfold allL allE
  rw [h]
  exact ⟨rfl, rfl⟩
theorem AllRel.err {s : Bs} {p : Nat} {l : List Bs} {y : Nat} (h : AllRel s p l) (hp : p < s.length) (hg : getR s p 999999 = .error y) : allL s = [] ∧ allE s = y := by
  rw [getR_at (by omega)] at hg
  have hd : s.drop p ≠ [] := by simp; omega
  unfold AllRel at h
  split at hg
  · next e he =>
    injection hg with hg
    subst hg
    rw [Wr.all_err _ _ hd he] at h
    unfold allL allE
    rw [h]
    exact ⟨rfl, rfl⟩
  · cases hg

def AllPost (s : Bs) (w : World) (e : Ending) (w' : World) : Prop :=
  Below w.heap.size w w' ∧ ∃ v, e = .returned (.tuple #[v, .int .i64 (allE s : Nat)]) ∧ Row vs w' w'.heap.size v (allL s)

set_option maxHeartbeats 4000000 in
theorem all_any (s : Bs) (w : World) (hs : s.length ≤ 1000000) (hg : ErrT w) :
    Calls Tryd.prog 11 #[vs s] w (AllPost s w) := by
  have hz := bs_size s
  have HG := Lib.hid hg
  have hlt0 : 0 < w.heap.size := World.block_lt_of_cell? w ⟨0, 0, none⟩ (by rw [hg])
  clear hg
  go_enter Tryd.func11, Tryd.ntmps11
  go_wp2_with fail
  go_loopw [4, 5] (fun o i wr => ∃ (p : Nat) (l : List Bs), p ≤ s.length ∧ i = .int .i64 p ∧ l.length ≤ p ∧ Txs w.heap.size wr o l ∧ Below w.heap.size w wr ∧ AllRel s p l) (fun _ i _ => s.length - (intOf i).toNat)
  case atStart => exact ⟨0, [], Nat.zero_le _, rfl, Nat.le_refl _, Txs.nil _ _, Below.refl _ _, AllRel.start s⟩
  case round =>
    obtain ⟨p, l, hp, rfl, hll, ho, hbel, hr⟩ := hrel
    have hle := hbel.size
    have HE : Hid (ErrT wr) := Lib.hid ((hbel.cell (p := ⟨0, 0, none⟩) hlt0).trans HG.out)
    by_cases hlt : p < s.length
    · have hpi : (p : Int) < ((bs s).size : Int) := by omega
      have HC := Lib.hid (wGet_any s p 999999 wr (by omega) ⟨by omega, by omega⟩ ⟨by omega, by omega⟩ HE.out)
      have HR := Lib.hid hr
      have HO := Lib.hid ho
      clear hr ho
      match hgr : getR s p 999999 with
      | .error y =>
        have hy := getR_err hgr
        rw [hgr] at HC
        have hy0 : ((y : Int) != 0) = true := by simp; omega
        have HQ := Lib.hid (AllRel.err HR.out hlt hgr)
        clear hgr hy
        go_wp2_with fail
        refine HC.out.mono ?_
        rintro e w2 ⟨rfl, hb⟩
        unfold gX gQ gE
        go_wp2_with fail
        go_ret2
        exact ⟨hbel.trans (hb.mono hle), .slice none 0 0, by rw [HQ.out.2]; rfl, by rw [HQ.out.1]; exact Row.nil _ _ _ _ _ (Nat.zero_le _)⟩
      | .ok (x, q) =>
        have HQ := Lib.hid (AllRel.step HR.out hp hgr)
        obtain ⟨q1, q2, _⟩ := getR_ok hp hgr
        rw [hgr] at HC
        clear hgr
        go_wp2_with fail
        refine HC.out.mono ?_
        rintro e w2 ⟨rfl, hb⟩
        unfold gX gQ gE
        have HO2 := Lib.hid (HO.out.below hb)
        have hb2 : Below w.heap.size w w2 := hbel.trans (hb.mono hle)
        have hle2 := hb2.size
        go_wp2_with (at_builtin; refine app_text rfl (.tmp 23) (.tmp 25) rfl w.heap.size _ l x rfl rfl HO2.out hle2 (by omega) ?_; intro v' w4 h8 h9 h10)
        go_roundw
        case rel => exact ⟨q, l ++ [x], q2, rfl, by simp; omega, h8, hb2.trans h9, HQ.out⟩
        case measure => simp [intOf]; omega
    · obtain rfl : p = s.length := by omega
      have HQ := Lib.hid (AllRel.stop hr)
      clear hr
      go_wp2_with fail
      go_ret2
      exact ⟨hbel, _, by rw [HQ.out.2]; rfl, by rw [HQ.out.1]; exact ho.row⟩

/-- What the document's length answers. -/
def LenPost2 (s : Bs) (a : Nat) (w : World) (e : Ending) (w' : World) : Prop :=
  w = w' ∧ ((∃ n q : Nat, Wr.len (s.drop a) 0 0 = .ok (n, s.drop q) ∧ n ≤ 999999 ∧ a < q ∧ q ≤ s.length ∧ e = .returned (.tuple #[.int .i64 n, .int .i64 q, .int .i64 0])) ∨
    (∃ x : Nat, Wr.len (s.drop a) 0 0 = .error x ∧ x ≠ 0 ∧ e = .returned (.tuple #[.int .i64 0, .int .i64 0, .int .i64 x])))
theorem digit_yes (x : Int) (w : World) (h1 : 48 ≤ x) (h2 : x ≤ 57) : Calls Tryd.prog 35 #[.int .u8 x] w fun e w' => e = .returned (.bool true) ∧ w = w' := by
  go_enter Tryd.func35, Tryd.ntmps35
  go_wp2_with fail
  go_ret
  exact ⟨rfl, rfl⟩
theorem digit_no (x : Int) (w : World) (h : x < 48 ∨ 57 < x) : Calls Tryd.prog 35 #[.int .u8 x] w fun e w' => e = .returned (.bool false) ∧ w = w' := by
  by_cases h1 : x < 48
  · go_enter Tryd.func35, Tryd.ntmps35
    go_wp2_with fail
    go_ret
    exact ⟨rfl, rfl⟩
  · have h2 : (48 : Int) ≤ x := by omega
    have h3 : (57 : Int) < x := by omega
    have h4 : decide (x ≤ 57) = false := by simp; omega
    go_enter Tryd.func35, Tryd.ntmps35
    go_wp2_with fail
    go_ret
    exact ⟨rfl, rfl⟩

set_option maxHeartbeats 4000000 in
theorem rlength_any (s : Bs) (a : Nat) (w : World) (h : a ≤ s.length) (hs : s.length ≤ 1000000000) :
    Calls Tryd.prog 25 #[vs s, .int .i64 a] w (LenPost2 s a w) := by
  have hz := bs_size s
  obtain ⟨d, hd⟩ : ∃ d : UInt8, a < s.length → s[a]? = some d := by
    by_cases h0 : a < s.length
    · exact ⟨s[a], fun _ => List.getElem?_eq_getElem h0⟩
    · exact ⟨0, fun h1 => absurd h1 h0⟩
  have HD := Lib.hid hd
  clear hd
  go_enter Tryd.func25, Tryd.ntmps25
  go_wp2_with fail
  go_loop [7, 8] (fun n i => ∃ p m : Nat, a ≤ p ∧ p ≤ s.length ∧ i = .int .i64 p ∧ n = .int .i64 m ∧ m ≤ 999999 ∧ (p = a → m = 0) ∧ (a < p → (m = 0 ↔ d.toNat = 48)) ∧ Wr.len (s.drop a) 0 0 = Wr.len (s.drop p) (p - a) m) (fun _ i => s.length - (intOf i).toNat)
  case atStart => exact ⟨a, 0, Nat.le_refl _, h, rfl, rfl, by omega, fun _ => rfl, fun h => absurd h (Nat.lt_irrefl _), by rw [Nat.sub_self]⟩
  case round =>
    obtain ⟨p, m, hap, hps, rfl, rfl, hm, hpa, hdm, hl⟩ := hrel
    by_cases hlt : p < s.length
    · rw [len_at s p (p - a) m hlt] at hl
      have hpb : p < (bs s).size := by omega
      have hpi : (p : Int) < ((bs s).size : Int) := by omega
      have hgb : (bs s)[p]'hpb = s[p] := rfl
      have hcb : s[p].toNat < 256 := s[p].toNat_lt
      have hab : a < (bs s).size := by omega
      have hai : (a : Int) < ((bs s).size : Int) := by omega
      have hga : (bs s)[a]'hab = d := by
        have h1 := HD.out (by omega)
        rw [List.getElem?_eq_getElem (by omega)] at h1
        exact Option.some.inj h1
      have hpd : p = a → s[p] = d := by
        rintro rfl
        have h1 := HD.out (by omega)
        rw [List.getElem?_eq_getElem (by omega)] at h1
        exact Option.some.inj h1
      have HPD := Lib.hid hpd
      have HPA := Lib.hid hpa
      have HDM := Lib.hid hdm
      clear hpd hdm hpa
      generalize s[p] = c at *
      obtain ⟨x, hx⟩ : ∃ x, x = c.toNat := ⟨_, rfl⟩
      rw [← hx] at hl hcb
      have HX := Lib.hid hx
      have hgx : ((c.toNat : Nat) : Int) = (x : Int) := by rw [hx]
      obtain ⟨y, hy⟩ : ∃ y, y = d.toNat := ⟨_, rfl⟩
      have HY := Lib.hid hy
      have hgy : ((d.toNat : Nat) : Int) = (y : Int) := by rw [hy]
      clear hx hy
      by_cases h1 : x = 58 ∧ a < p
      · obtain ⟨rfl, h2⟩ := h1
        rw [if_pos ⟨rfl, by omega⟩] at hl
        have HL := Lib.hid hl
        have h2' : (a : Int) < (p : Int) := by omega
        clear hl
        go_wp2_with fail
        go_ret3
        exact ⟨rfl, .inl ⟨m, p + 1, HL.out, hm, by omega, by omega, by go_num⟩⟩
      · rw [if_neg (by omega)] at hl
        by_cases h3 : x < 48 ∨ 57 < x ∨ (a < p ∧ m = 0)
        · rw [if_pos (by omega)] at hl
          have HL := Lib.hid hl
          clear hl
          by_cases h5 : (x : Int) < 48 ∨ (57 : Int) < (x : Int)
          · by_cases h58 : x = 58
            · have h4 : (p : Int) ≤ (a : Int) := by omega
              subst h58
              go_wp2_with (go_at_call 35; refine (digit_no _ _ h5).mono ?_; rintro e w' ⟨rfl, rfl⟩)
              go_ret3
              exact ⟨rfl, .inr ⟨5, HL.out, by omega, rfl⟩⟩
            · have h58' : ((x : Int) == 58) = false := by simp; omega
              go_wp2_with (go_at_call 35; refine (digit_no _ _ h5).mono ?_; rintro e w' ⟨rfl, rfl⟩)
              go_ret3
              exact ⟨rfl, .inr ⟨5, HL.out, by omega, rfl⟩⟩
          · have h58' : ((x : Int) == 58) = false := by simp; omega
            have h7' : (a : Int) < (p : Int) := by omega
            have h8' : ((y : Int) == 48) = true := by
              have := (HDM.out (by omega)).1 (by omega)
              rw [← HY.out] at this
              simp; omega
            go_wp2_with (go_at_call 35; refine (digit_yes _ _ (by omega) (by omega)).mono ?_; rintro e w' ⟨rfl, rfl⟩)
            go_ret3
            exact ⟨rfl, .inr ⟨5, HL.out, by omega, rfl⟩⟩
        · rw [if_neg (by omega)] at hl
          have h58' : ((x : Int) == 58) = false := by simp; omega
          have h5' : (48 : Int) ≤ (x : Int) := by omega
          have h6' : (x : Int) ≤ 57 := by omega
          have hdm2 : (a < p + 1 → (m * 10 + (x - 48) = 0 ↔ y = 48)) := by
            intro _
            by_cases h7 : a < p
            · have := HDM.out h7
              rw [← HY.out] at this
              omega
            · have := HPD.out (by omega)
              subst this
              have : x = y := by rw [HX.out, HY.out]
              have : m = 0 := HPA.out (by omega)
              omega
          have HDM2 := Lib.hid hdm2
          clear hdm2
          by_cases h7 : a < p
          · have h7' : (a : Int) < (p : Int) := by omega
            have h8' : ((y : Int) == 48) = false := by
              have := (HDM.out h7)
              rw [← HY.out] at this
              simp; omega
            by_cases h8 : 999999 < m * 10 + (x - 48)
            · rw [if_pos h8] at hl
              have HL := Lib.hid hl
              have h8' : (999999 : Int) < 10 * (m : Int) + (x : Int) - 48 := by omega
              clear hl
              go_wp2_with (go_at_call 35; refine (digit_yes _ _ (by omega) (by omega)).mono ?_; rintro e w' ⟨rfl, rfl⟩)
              go_ret3
              exact ⟨rfl, .inr ⟨3, HL.out, by omega, rfl⟩⟩
            · rw [if_neg h8] at hl
              have HL : Hid (Wr.len (s.drop a) 0 0 = Wr.len (s.drop (p + 1)) (p + 1 - a) (m * 10 + (x - 48))) := by rw [show p + 1 - a = p - a + 1 by omega]; exact hl
              have h8' : 10 * (m : Int) + (x : Int) - 48 ≤ (999999 : Int) := by omega
              clear hl
              go_wp2_with (go_at_call 35; refine (digit_yes _ _ (by omega) (by omega)).mono ?_; rintro e w' ⟨rfl, rfl⟩)
              go_round
              case rel => exact ⟨p + 1, m * 10 + (x - 48), by omega, by omega, by go_num, by congr 1; omega, by omega, by omega, by rw [← HY.out]; exact HDM2.out, HL.out⟩
              case measure => simp [intOf]; omega
          · have h7' : (p : Int) ≤ (a : Int) := by omega
            by_cases h8 : 999999 < m * 10 + (x - 48)
            · rw [if_pos h8] at hl
              have HL := Lib.hid hl
              have h8' : (999999 : Int) < 10 * (m : Int) + (x : Int) - 48 := by omega
              clear hl
              go_wp2_with (go_at_call 35; refine (digit_yes _ _ (by omega) (by omega)).mono ?_; rintro e w' ⟨rfl, rfl⟩)
              go_ret3
              exact ⟨rfl, .inr ⟨3, HL.out, by omega, rfl⟩⟩
            · rw [if_neg h8] at hl
              have HL : Hid (Wr.len (s.drop a) 0 0 = Wr.len (s.drop (p + 1)) (p + 1 - a) (m * 10 + (x - 48))) := by rw [show p + 1 - a = p - a + 1 by omega]; exact hl
              have h8' : 10 * (m : Int) + (x : Int) - 48 ≤ (999999 : Int) := by omega
              clear hl
              go_wp2_with (go_at_call 35; refine (digit_yes _ _ (by omega) (by omega)).mono ?_; rintro e w' ⟨rfl, rfl⟩)
              go_round
              case rel => exact ⟨p + 1, m * 10 + (x - 48), by omega, by omega, by go_num, by congr 1; omega, by omega, by omega, by rw [← HY.out]; exact HDM2.out, HL.out⟩
              case measure => simp [intOf]; omega
    · obtain rfl : p = s.length := by omega
      rw [len_done] at hl
      have HL := Lib.hid hl
      clear hl hdm hpa
      go_wp2_with fail
      go_ret3
      exact ⟨rfl, .inr ⟨6, HL.out, by omega, rfl⟩⟩
end Go.Proofs.YtmgfbmkfgbildaaDoor
