/- wire.length, wire.get, wire.Get: what they answer. · wire.get, wire.Get. · Rows of texts that a call owns. · wire.All. · A byte as a text. · wire.Put. · What the row's condition on the listed variables gives a walk; a world that meets it. -/
import Derived.Test.YtkoegbjnhoecoaaGreatDoorRows
import Derived.Test.YtkoegbjnhoecoaaGreatDoorH1
import Derived.Lib.OthersKept
import Derived.Lib.SlBytesConst
import Derived.Test.YtkoegbjnhoecoaaGreatDoorShelf
import Derived.Lib.AppendIntMem
import Derived.Lay
import Derived.LaidHandle
import Derived.Lib.LaidTab
namespace Go.Proofs.YtkoegbjnhoecoaaGreatDoor
open Go.RowKit Go.Lib Go.Sort Tx

theorem len_at (s : Bs) (p k m : Nat) (h : p < s.length) : Wr.len (s.drop p) k m =
    if s[p].toNat = 58 ∧ 0 < k then .ok (m, s.drop (p + 1))
    else if s[p].toNat < 48 ∨ 57 < s[p].toNat ∨ (0 < k ∧ m = 0) then .error 5
    else if 999999 < m * 10 + (s[p].toNat - 48) then .error 3
    else Wr.len (s.drop (p + 1)) (k + 1) (m * 10 + (s[p].toNat - 48)) := by
  rw [List.drop_eq_getElem_cons h, Wr.len]
theorem len_done (s : Bs) (k m : Nat) : Wr.len (s.drop s.length) k m = .error 6 := by rw [List.drop_length]; rfl

def LenPost (s : Bs) (a : Nat) (w : World) (e : Ending) (w' : World) : Prop :=
  Below w.heap.size w w' ∧ ((∃ n q : Nat, Wr.len (s.drop a) 0 0 = .ok (n, s.drop q) ∧ n ≤ 999999 ∧ a < q ∧ q ≤ s.length ∧ e = .returned (.tuple #[.int .i64 n, .int .i64 q, .nilIface])) ∨
    (∃ (x : Nat) (v : Value), Wr.len (s.drop a) 0 0 = .error x ∧ e = .returned (.tuple #[.int .i64 0, .int .i64 0, v]) ∧ ErrV w' v x))
theorem errV_new (w : World) (i : Int) (x : Nat) : ErrV (w.alloc (.cells #[.int .i64 i, .int .i64 x] 132)) (.iface 130 (.pointer (some ⟨w.heap.size, 0, none⟩))) x :=
  ⟨w.heap.size, rfl, by rw [cell_of_row _ w.heap.size 1 _ 132 (0, 0) (heap_alloc_new w _)]; rfl⟩
theorem LenPost.err {s : Bs} {a : Nat} {w w' : World} {i : Int} {x : Nat} (h : Wr.len (s.drop a) 0 0 = .error x) (hb : Below w.heap.size w w') (hs : w.heap.size ≤ w'.heap.size) :
    LenPost s a w (.returned (.tuple #[.int .i64 0, .int .i64 0, .iface 130 (.pointer (some ⟨w'.heap.size, 0, none⟩))])) (w'.alloc (.cells #[.int .i64 i, .int .i64 x] 132)) :=
  ⟨hb.alloc hs _, .inr ⟨x, _, h, rfl, errV_new w' i x⟩⟩

set_option maxHeartbeats 4000000 in
theorem length_any (s : Bs) (a : Nat) (w : World) (h : a ≤ s.length) (hs : s.length ≤ maxLen) :
    Calls Tryz.prog 79 #[vs s, .int .i64 a] w (LenPost s a w) := by
  have hz := bs_size s
  simp only [maxLen] at hs
  go_enter Tryz.func79, Tryz.ntmps79
  go_wp2_with fail
  go_loop [7, 8] (fun n i => ∃ p m : Nat, a ≤ p ∧ p ≤ s.length ∧ i = .int .i64 p ∧ n = .int .i64 m ∧ m ≤ 999999 ∧ Wr.len (s.drop a) 0 0 = Wr.len (s.drop p) (p - a) m) (fun _ i => s.length - (RowKit.intOf i).toNat)
  case atStart => exact ⟨a, 0, Nat.le_refl _, h, rfl, rfl, by omega, by rw [Nat.sub_self]⟩
  case round =>
    obtain ⟨p, m, hap, hps, rfl, rfl, hm, hl⟩ := hrel
    by_cases hlt : p < s.length
    · rw [len_at s p (p - a) m hlt] at hl
      have hpb : p < (bs s).size := by omega
      have hpi : (p : Int) < ((bs s).size : Int) := by omega
      have hgb : (bs s)[p]'hpb = s[p] := rfl
      have hcb : s[p].toNat < 256 := s[p].toNat_lt
      generalize s[p] = c at *
      obtain ⟨x, hx⟩ : ∃ x, x = c.toNat := ⟨_, rfl⟩
      rw [← hx] at hl hcb
      have HX := Lib.hid hx
      have hgx : ((c.toNat : Nat) : Int) = (x : Int) := by rw [hx]
      clear hx
      by_cases h1 : x = 58 ∧ a < p
      · obtain ⟨rfl, h2⟩ := h1
        rw [if_pos ⟨rfl, by omega⟩] at hl
        have HL := Lib.hid hl
        have h2' : (a : Int) < (p : Int) := by omega
        clear hl
        go_wp2_with fail
        go_ret3
        exact ⟨Below.refl _ _, .inl ⟨m, p + 1, HL.out, hm, by omega, by omega, by go_num⟩⟩
      · rw [if_neg (by omega)] at hl
        by_cases h3 : x < 48 ∨ 57 < x ∨ (a < p ∧ m = 0)
        · rw [if_pos (by omega)] at hl
          have HL := Lib.hid hl
          clear hl
          by_cases h58 : x = 58
          · have h4 : (p : Int) ≤ (a : Int) := by omega
            subst h58
            go_wp2_with fail
            go_ret3
            exact LenPost.err HL.out (Below.refl _ _) (Nat.le_refl _)
          · have h58' : ((x : Int) == 58) = false := by simp; omega
            by_cases h5 : x < 48
            · have h5' : (x : Int) < 48 := by omega
              go_wp2_with fail
              go_ret3
              exact LenPost.err HL.out (Below.refl _ _) (Nat.le_refl _)
            · have h5' : (48 : Int) ≤ (x : Int) := by omega
              by_cases h6 : 57 < x
              · have h6' : (57 : Int) < (x : Int) := by omega
                go_wp2_with fail
                go_ret3
                exact LenPost.err HL.out (Below.refl _ _) (Nat.le_refl _)
              · have h6' : (x : Int) ≤ 57 := by omega
                have h7' : (a : Int) < (p : Int) := by omega
                obtain rfl : m = 0 := by omega
                go_wp2_with fail
                go_ret3
                exact LenPost.err HL.out (Below.refl _ _) (Nat.le_refl _)
        · rw [if_neg (by omega)] at hl
          have h58' : ((x : Int) == 58) = false := by simp; omega
          have h5' : (48 : Int) ≤ (x : Int) := by omega
          have h6' : (x : Int) ≤ 57 := by omega
          by_cases h8 : 999999 < m * 10 + (x - 48)
          · rw [if_pos h8] at hl
            have HL := Lib.hid hl
            have h8' : (999999 : Int) < (m : Int) * 10 + ((x : Int) - 48) := by omega
            clear hl
            by_cases h7 : a < p
            · have h7' : (a : Int) < (p : Int) := by omega
              have hm0 : ((m : Int) == 0) = false := by simp; omega
              go_wp2_with fail
              go_ret3
              exact LenPost.err HL.out (Below.refl _ _) (Nat.le_refl _)
            · have h7' : (p : Int) ≤ (a : Int) := by omega
              go_wp2_with fail
              go_ret3
              exact LenPost.err HL.out (Below.refl _ _) (Nat.le_refl _)
          · rw [if_neg h8] at hl
            have HL : Hid (Wr.len (s.drop a) 0 0 = Wr.len (s.drop (p + 1)) (p + 1 - a) (m * 10 + (x - 48))) := by rw [show p + 1 - a = p - a + 1 by omega]; exact hl
            have h8' : (m : Int) * 10 + ((x : Int) - 48) ≤ (999999 : Int) := by omega
            clear hl
            by_cases h7 : a < p
            · have h7' : (a : Int) < (p : Int) := by omega
              have hm0 : ((m : Int) == 0) = false := by simp; omega
              go_wp2_with fail
              go_round
              case rel => exact ⟨p + 1, m * 10 + (x - 48), by omega, by omega, by go_num, by congr 1; omega, by omega, HL.out⟩
              case measure => simp [RowKit.intOf]; omega
            · have h7' : (p : Int) ≤ (a : Int) := by omega
              go_wp2_with fail
              go_round
              case rel => exact ⟨p + 1, m * 10 + (x - 48), by omega, by omega, by go_num, by congr 1; omega, by omega, HL.out⟩
              case measure => simp [RowKit.intOf]; omega
    · obtain rfl : p = s.length := by omega
      rw [len_done] at hl
      have HL := Lib.hid hl
      clear hl
      go_wp2_with fail
      go_ret3
      exact LenPost.err HL.out (Below.refl _ _) (Nat.le_refl _)
end Go.Proofs.YtkoegbjnhoecoaaGreatDoor
namespace Go.Proofs.YtkoegbjnhoecoaaGreatDoor
open Go.RowKit Go.Lib Go.Sort Tx

abbrev I64 (a : Int) : Prop := -9223372036854775808 ≤ a ∧ a ≤ 9223372036854775807
/-- The text at a place, and the place behind it. -/
def getR (s : Bs) (a top : Int) : Except Nat (Bs × Nat) :=
  if a < 0 ∨ (s.length : Int) < a then .error 1
  else match Wr.get1 (s.drop a.toNat) top.toNat with
    | .error e => .error e
    | .ok (x, r) => .ok (x, s.length - r.length)
def gX (g : Except Nat (Bs × Nat)) : Bs := match g with | .ok (x, _) => x | .error _ => []
def gQ (g : Except Nat (Bs × Nat)) : Nat := match g with | .ok (_, q) => q | .error _ => 0
def gE (g : Except Nat (Bs × Nat)) : Nat := match g with | .ok _ => 0 | .error e => e
theorem get1_eq (s : Bs) (k n q top : Nat) (h : Wr.len (s.drop k) 0 0 = .ok (n, s.drop q)) (hq : q ≤ s.length) :
    Wr.get1 (s.drop k) top = if top < n then .error 3 else if s.length < q + n + 1 then .error 6 else if s[q + n]? ≠ some 44 then .error 5 else .ok ((s.drop q).take n, s.drop (q + n + 1)) := by
  unfold Wr.get1
  rw [h]
  simp only [List.length_drop, List.getElem?_drop, List.drop_drop]
  by_cases h1 : top < n
  · rw [if_pos h1, if_pos h1]
  · rw [if_neg h1, if_neg h1]
    by_cases h2 : s.length < q + n + 1
    · rw [if_pos (by omega), if_pos h2]
    · rw [if_neg (by omega), if_neg h2, Nat.add_assoc]
theorem get1_eqE (s : Bs) (k top x : Nat) (h : Wr.len (s.drop k) 0 0 = .error x) : Wr.get1 (s.drop k) top = .error x := by
  unfold Wr.get1
  rw [h]

def GetPost (s : Bs) (a top : Int) (w : World) (e : Ending) (w' : World) : Prop :=
  Below w.heap.size w w' ∧ ((∃ (x : Bs) (q : Nat), getR s a top = .ok (x, q) ∧ e = .returned (.tuple #[vs x, .int .i64 q, .nilIface])) ∨
    (∃ (y : Nat) (v : Value), getR s a top = .error y ∧ e = .returned (.tuple #[vs [], .int .i64 0, v]) ∧ ErrV w' v y))
theorem GetPost.err {s : Bs} {a top : Int} {w w' : World} {i : Int} {x : Nat} (h : getR s a top = .error x) (hb : Below w.heap.size w w') :
    GetPost s a top w (.returned (.tuple #[.string ⟨#[]⟩, .int .i64 0, .iface 130 (.pointer (some ⟨w'.heap.size, 0, none⟩))])) (w'.alloc (.cells #[.int .i64 i, .int .i64 x] 132)) :=
  ⟨hb.alloc hb.size _, .inr ⟨x, _, h, rfl, errV_new w' i x⟩⟩

set_option maxHeartbeats 4000000 in
theorem get_any (s : Bs) (a top : Int) (w : World) (hs : s.length ≤ 1000000000) (ha : I64 a) (ht : I64 top) :
    Calls Tryz.prog 67 #[vs s, .int .i64 a, .int .i64 top] w (GetPost s a top w) := by
  have hz := bs_size s
  have hm : s.length ≤ maxLen := by simp only [maxLen]; omega
  obtain ⟨ha1, ha2⟩ := ha
  obtain ⟨ht1, ht2⟩ := ht
  by_cases h0 : a < 0 ∨ (s.length : Int) < a
  · have HG : Hid (getR s a top = .error 1) := by show _ = _; unfold getR; rw [if_pos h0]
    by_cases h1 : a < 0
    · go_enter Tryz.func67, Tryz.ntmps67
      go_wp2_with fail
      go_ret3
      exact GetPost.err HG.out (Below.refl _ _)
    · have h2 : (0 : Int) ≤ a := by omega
      have h3 : ((bs s).size : Int) < a := by omega
      go_enter Tryz.func67, Tryz.ntmps67
      go_wp2_with fail
      go_ret3
      exact GetPost.err HG.out (Below.refl _ _)
  · obtain ⟨k, rfl⟩ : ∃ k : Nat, a = (k : Int) := ⟨a.toNat, by omega⟩
    have hk : k ≤ s.length := by omega
    have i1 : (0 : Int) ≤ (k : Int) := by omega
    have i2 : (k : Int) ≤ ((bs s).size : Int) := by omega
    have HR : Hid (getR s (k : Int) top = match Wr.get1 (s.drop k) top.toNat with | .error e => .error e | .ok (x, r) => .ok (x, s.length - r.length)) := by
      show _ = _
      unfold getR
      rw [if_neg h0]; rfl
    have HL := Lib.hid (length_any s k w hk hm)
    clear hm h0
    go_enter Tryz.func67, Tryz.ntmps67
    go_wp2_with fail
    refine HL.out.mono ?_
    rintro e w1 ⟨hb, ⟨n, q, hl, hn, hkq, hqs, rfl⟩ | ⟨x, v, hl, rfl, hv⟩⟩
    · have hg := get1_eq s k n q top.toNat hl hqs
      have b0 : (q : Int) + (n : Int) ≤ 2000000000 := by omega
      have b1 : (0 : Int) ≤ (q : Int) + (n : Int) := by omega
      by_cases h1 : top.toNat < n
      · rw [if_pos h1] at hg
        have HG : Hid (getR s (k : Int) top = .error 3) := by show _ = _; rw [HR.out, hg]
        clear hg hl
        by_cases htp : 0 < top
        · have h1' : top < (n : Int) := by omega
          go_wp2_with fail
          go_ret3
          exact GetPost.err HG.out hb
        · have h1' : (0 : Int) < (n : Int) := by omega
          have htp' : top ≤ 0 := by omega
          go_wp2_with fail
          go_ret3
          exact GetPost.err HG.out hb
      · rw [if_neg h1] at hg
        by_cases h2 : s.length < q + n + 1
        · rw [if_pos h2] at hg
          have HG : Hid (getR s (k : Int) top = .error 6) := by show _ = _; rw [HR.out, hg]
          have h2' : ((bs s).size : Int) < (q : Int) + (n : Int) + 1 := by omega
          clear hg hl
          by_cases htp : 0 < top
          · have h1' : (n : Int) ≤ top := by omega
            go_wp2_with fail
            go_ret3
            exact GetPost.err HG.out hb
          · have h1' : (n : Int) ≤ 0 := by omega
            have htp' : top ≤ 0 := by omega
            go_wp2_with fail
            go_ret3
            exact GetPost.err HG.out hb
        · rw [if_neg h2] at hg
          have h2' : (q : Int) + (n : Int) + 1 ≤ ((bs s).size : Int) := by omega
          have hqn : q + n < s.length := by omega
          have hqb : q + n < (bs s).size := by omega
          obtain ⟨c, hc⟩ : ∃ c, s[q + n]? = some c := ⟨_, List.getElem?_eq_getElem hqn⟩
          have hgb : (bs s)[q + n]'hqb = c := by
            have := List.getElem?_eq_getElem hqn
            exact Option.some.inj (this.symm.trans hc)
          rw [hc] at hg
          clear hc
          have h3' : (q : Int) + (n : Int) < ((bs s).size : Int) := by omega
          have h5' : ((q : Int) + (n : Int)).toNat = q + n := by omega
          have hx := bs_extract' s q (q + n)
          by_cases h3 : c = 44
          · subst h3
            rw [if_neg (by simp)] at hg
            have HG : Hid (getR s (k : Int) top = .ok ((s.take (q + n)).drop q, q + n + 1)) := by
              show _ = _
              rw [HR.out, hg]
              simp only [List.length_drop]
              rw [List.drop_take, show q + n - q = n by omega, show s.length - (s.length - (q + n + 1)) = q + n + 1 by omega]
            generalize (s.take (q + n)).drop q = X at *
            clear hg hl
            by_cases htp : 0 < top
            · have h1' : (n : Int) ≤ top := by omega
              go_wp2_with fail
              go_ret3
              exact ⟨hb, .inl ⟨X, q + n + 1, HG.out, by go_num⟩⟩
            · have h1' : (n : Int) ≤ 0 := by omega
              have htp' : top ≤ 0 := by omega
              go_wp2_with fail
              go_ret3
              exact ⟨hb, .inl ⟨X, q + n + 1, HG.out, by go_num⟩⟩
          · rw [if_pos (by simpa using h3)] at hg
            have HG : Hid (getR s (k : Int) top = .error 5) := by show _ = _; rw [HR.out, hg]
            have hc : ((c.toNat : Int) != 44) = true := by
              simp
              intro h
              exact h3 (UInt8.toNat_inj.1 (by simpa using (by omega : c.toNat = 44)))
            clear hg hl h3
            by_cases htp : 0 < top
            · have h1' : (n : Int) ≤ top := by omega
              go_wp2_with fail
              go_ret3
              exact GetPost.err HG.out hb
            · have h1' : (n : Int) ≤ 0 := by omega
              have htp' : top ≤ 0 := by omega
              go_wp2_with fail
              go_ret3
              exact GetPost.err HG.out hb
    · have HG : Hid (getR s (k : Int) top = .error x) := by show _ = _; rw [HR.out, get1_eqE s k top.toNat x hl]
      obtain ⟨g, rfl, hc⟩ := hv
      have HC := Lib.hid hc
      clear hl hc
      go_wp2_with fail
      go_ret3
      exact ⟨hb, .inr ⟨x, _, HG.out, rfl, g, rfl, HC.out⟩⟩

set_option maxHeartbeats 4000000 in
theorem wGet_any (s : Bs) (a top : Int) (w : World) (hs : s.length ≤ 1000000000) (ha : I64 a) (ht : I64 top) (hg : ErrT w) :
    Calls Tryz.prog 61 #[vs s, .int .i64 a, .int .i64 top] w fun e w' => e = .returned (.tuple #[vs (gX (getR s a top)), .int .i64 (gQ (getR s a top)), .int .i64 (gE (getR s a top))]) ∧ Below w.heap.size w w' := by
  have HL := Lib.hid (get_any s a top w hs ha ht)
  have HG := Lib.hid hg
  clear hs ha ht hg
  generalize hR : getR s a top = R at *
  have HR := Lib.hid hR
  clear hR
  go_enter Tryz.func61, Tryz.ntmps61
  go_wp2_with fail
  refine HL.out.mono ?_
  rintro e w1 ⟨hb, ⟨x, q, h1, rfl⟩ | ⟨y, v, h1, rfl, hv⟩⟩
  · rw [HR.out] at h1
    subst h1
    go_wp2_with fail
    go_ret3
    exact ⟨rfl, hb⟩
  · rw [HR.out] at h1
    subst h1
    have hlt : 4 < w.heap.size := World.block_lt_of_cell? w ⟨4, 0, none⟩ (by rw [HG.out])
    have HE : Hid (ErrT w1) := by exact Lib.hid ((hb.cell (p := ⟨4, 0, none⟩) hlt).trans HG.out)
    have HN := Lib.hid (number_any v y w1 HE.out hv)
    obtain ⟨g, rfl, hc⟩ := hv
    clear hc
    go_wp2_with fail
    refine HN.out.mono ?_
    rintro e w2 ⟨rfl, hb2⟩
    go_wp2_with fail
    go_ret3
    exact ⟨rfl, hb.trans (hb2.mono hb.size)⟩
end Go.Proofs.YtkoegbjnhoecoaaGreatDoor
namespace Go.Proofs.YtkoegbjnhoecoaaGreatDoor
open Go.RowKit Go.Lib Go.Sort Tx

theorem strInfo : (Tryz.prog.info? 9).map (fun i => (i.zero, i.size, i.bytes)) = some (some (.string ⟨#[]⟩), 1, 16) := by kernel_rfl
instance : Inhabited Bs := ⟨[]⟩

/-- A row of texts that the call owns, behind block base. -/
def Txs (base : Nat) (w : World) (v : Value) (l : List Bs) : Prop := w.ownsRow base 9 1 v l.length (l.map vs)
theorem Txs.row {base : Nat} {w : World} {v : Value} {l : List Bs} (h : Txs base w v l) : Row vs w w.heap.size v l := Row.own h
theorem Txs.below {base : Nat} {w w' : World} {v : Value} {l : List Bs} (h : Txs base w v l) (hb : Below w.heap.size w w') : Txs base w' v l := own_below h hb
theorem Txs.mono {b base : Nat} {w : World} {v : Value} {l : List Bs} (h : Txs base w v l) (hb : b ≤ base) : Txs b w v l := ⟨h.1, h.2.imp id fun ⟨g, cap, cur, h1, h2, h3⟩ => ⟨g, cap, cur, h1, Nat.le_trans hb h2, h3⟩⟩
theorem Txs.keep {base : Nat} {w w' : World} {v : Value} {l : List Bs} (h : Txs base w v l) (hk : ∀ j, base ≤ j → j < w.heap.size → w'.heap[j]? = w.heap[j]?) : Txs base w' v l := by
  refine ⟨h.1, ?_⟩
  rcases h.2 with h2 | ⟨g, cap, cur, rfl, hbg, hg, rest⟩
  · exact .inl h2
  · exact .inr ⟨g, cap, cur, rfl, hbg, (hk g hbg (Array.getElem?_eq_some_iff.1 hg).1).trans hg, rest⟩
theorem Txs.iter {k : Nat} {w : World} {v : Value} {l : List Bs} {s : ByteArray} {p : Nat} (h : Txs (k + 1) w v l) : Txs (k + 1) (w.iterAt k s p) v l := h.keep fun j hj _ => iterAt_other w k j s p (by omega)
theorem Txs.nil (base : Nat) (w : World) : Txs base w (.slice none 0 0) [] := World.ownsRow_nil w base _ _
/-- 'out = append(out, x)': one text more. -/
theorem app_text {w0 : World} {ops : Array Oper} {rest : List Oper} {o : Oper} {a : Act} {Q : Exit → Act → World → Prop} (hgd : o.guard = none) (s x : Operand)
    (ho : o.op = .call { callee := .builtin .append, args := #[s, x], argTypes := #[102, 102] })
    (base : Nat) (v : Value) (l : List Bs) (u : Bs) (hs : a.eval s = v) (hx : a.eval x = .slice (some ⟨w0.heap.size, 0, none⟩) 1 1)
    (hown : Txs base w0 v l) (hb : base ≤ w0.heap.size) (hl : l.length < 1000000)
    (h : ∀ v' w', Txs base w' v' (l ++ [u]) → Below base w0 w' → w0.grownBy w' v.ownBlock → wpList Tryz.prog ops Q rest (a.put o.dst v') w') :
    wpList Tryz.prog ops Q (o :: rest) a (w0.alloc (.cells #[.string (bs u)] 9)) := by
  obtain ⟨i0, hi0, hz0, hz1, hz2⟩ := info_parts strInfo
  refine wpList_app1 hgd s x 102 ho base 9 i0 _ 16 Tryz.underlying102 hi0 hz0 hz1 hz2 rfl v l.length (l.map vs) (vs u) rfl hs hx hown hb (by simp only [maxLen]; omega) (by omega) ?_
  intro v' w' h1 h2 h3
  exact h v' w' (by simpa [Txs] using h1) h2 h3

theorem Txs.shape {base : Nat} {w : World} {v : Value} {l : List Bs} (h : Txs base w v l) (hne : l ≠ []) :
    ∃ g cap, v = .slice (some ⟨g, 0, none⟩) l.length cap ∧ base ≤ g ∧ g < w.heap.size ∧ l.length ≤ cap ∧ cap ≤ maxLen ∧ ∀ j (h : j < l.length), w.cell? ⟨g, j, none⟩ = some (vs l[j]) ∧ w.frozen? ⟨g, j, none⟩ = false := by
  rcases h.2 with ⟨_, hn⟩ | ⟨g, cap, cur, rfl, hb, hg, hnc, hcm, hcs, htake⟩
  · exact absurd (List.eq_nil_of_length_eq_zero hn) hne
  · refine ⟨g, cap, rfl, hb, (Array.getElem?_eq_some_iff.1 hg).1, hnc, hcm, fun j hj => ⟨?_, by simp [World.frozen?, hg]⟩⟩
    have h' : w.ownsRow base 9 1 (.slice (some ⟨g, 0, none⟩) l.length cap) l.length (l.map vs) := h
    rw [h'.cellAt j (by omega)]
    simp [hj]

theorem toList_bs (l : Bs) : (bs l).toList = l := by rw [ByteArray.toList_eq]; exact bs_list l

end Go.Proofs.YtkoegbjnhoecoaaGreatDoor
namespace Go.Proofs.YtkoegbjnhoecoaaGreatDoor
open Go.RowKit Go.Lib Go.Sort Tx

theorem len_err : ∀ (t : Wr.Bs) (i n x : Nat), Wr.len t i n = .error x → x = 3 ∨ x = 5 ∨ x = 6 := by
  intro t
  induction t with
  | nil => intro i n x h; simp [Wr.len] at h; omega
  | cons c t ih =>
    intro i n x h
    simp only [Wr.len] at h
    split at h
    · cases h
    · split at h
      · injection h with h; omega
      · split at h
        · injection h with h; omega
        · exact ih _ _ _ h
theorem get1_err (t : Wr.Bs) (top x : Nat) (h : Wr.get1 t top = .error x) : x = 3 ∨ x = 5 ∨ x = 6 := by
  unfold Wr.get1 at h
  split at h
  · next e he => injection h with h; subst h; exact len_err _ _ _ _ he
  · split at h
    · injection h with h; omega
    · split at h
      · injection h with h; omega
      · split at h
        · injection h with h; omega
        · cases h
theorem getR_err {s : Bs} {a top : Int} {y : Nat} (h : getR s a top = .error y) : y = 1 ∨ y = 3 ∨ y = 5 ∨ y = 6 := by
  unfold getR at h
  split at h
  · injection h with h; omega
  · split at h
    · next e he => injection h with h; subst h; have := get1_err _ _ _ he; omega
    · cases h
theorem getR_ok {s : Bs} {p : Nat} {top : Int} {x : Bs} {q : Nat} (hp : p ≤ s.length) (h : getR s p top = .ok (x, q)) : p < q ∧ q ≤ s.length ∧ Wr.get1 (s.drop p) top.toNat = .ok (x, s.drop q) ∧ s.drop p = Wr.put x ++ s.drop q ∧ x.length ≤ top.toNat ∧ x.length ≤ 999999 := by
  unfold getR at h
  rw [if_neg (by omega)] at h
  simp only [Int.toNat_natCast] at h
  split at h
  · cases h
  · next y r hg =>
    injection h with h
    injection h with h1 h2
    subst h1
    obtain ⟨h3, h4, h5⟩ := Wr.get1_inv _ _ _ _ hg
    have hl := congrArg List.length h3
    have h6 := Wr.put_len y
    simp only [List.length_drop, List.length_append] at hl
    have hr : r = s.drop q := by
      have h7 : (s.drop p).drop (Wr.put y).length = r := by rw [h3, List.drop_left]
      rw [List.drop_drop] at h7
      rw [← h7]
      congr 1
      omega
    rw [hr] at h3 hg
    exact ⟨by omega, by omega, hg, h3, h4, h5⟩
theorem getR_at {s : Bs} {p : Nat} {top : Int} (hp : p ≤ s.length) : getR s p top = match Wr.get1 (s.drop p) top.toNat with | .error e => .error e | .ok (x, r) => .ok (x, s.length - r.length) := by
  unfold getR
  rw [if_neg (by omega)]
  rfl

def allL (s : Bs) : List Bs := match Wr.all s with | .ok l => l | .error _ => []
def allE (s : Bs) : Nat := match Wr.all s with | .ok _ => 0 | .error e => e
def AllRel (s : Bs) (p : Nat) (l : List Bs) : Prop := Wr.all s = match Wr.all (s.drop p) with | .ok m => .ok (l ++ m) | .error e => .error e
theorem AllRel.start (s : Bs) : AllRel s 0 [] := by
  unfold AllRel
  rw [List.drop_zero]
  cases Wr.all s <;> rfl
theorem AllRel.step {s : Bs} {p : Nat} {l : List Bs} {x : Bs} {q : Nat} (h : AllRel s p l) (hp : p ≤ s.length) (hg : getR s p 999999 = .ok (x, q)) : AllRel s q (l ++ [x]) := by
  obtain ⟨h1, h2, h3, h4, h5⟩ := getR_ok hp hg
  unfold AllRel at *
  rw [h, Wr.all_ok _ _ _ h3]
  cases Wr.all (s.drop q) <;> simp
theorem AllRel.stop {s : Bs} {l : List Bs} (h : AllRel s s.length l) : allL s = l ∧ allE s = 0 := by
  unfold AllRel at h
  rw [List.drop_length, Wr.all_nil] at h
  simp only [List.append_nil] at h
  unfold allL allE
  rw [h]
  exact ⟨rfl, rfl⟩
theorem AllRel.err {s : Bs} {p : Nat} {l : List Bs} {y : Nat} (h : AllRel s p l) (hp : p < s.length) (hg : getR s p 999999 = .error y) : allL s = [] ∧ allE s = y := by
  rw [getR_at (by omega)] at hg
  have hd : s.drop p ≠ [] := by simp; omega
  unfold AllRel at h
  split at hg
  · next e he =>
    injection hg with hg
    subst hg
    rw [Wr.all_err _ _ hd he] at h
    unfold allL allE
    rw [h]
    exact ⟨rfl, rfl⟩
  · cases hg

def AllPost (s : Bs) (w : World) (e : Ending) (w' : World) : Prop :=
  Below w.heap.size w w' ∧ ∃ v, e = .returned (.tuple #[v, .int .i64 (allE s : Nat)]) ∧ Row vs w' w'.heap.size v (allL s)

set_option maxHeartbeats 4000000 in
theorem all_any (s : Bs) (w : World) (hs : s.length ≤ 1000000) (hg : ErrT w) :
    Calls Tryz.prog 54 #[vs s] w (AllPost s w) := by
  have hz := bs_size s
  have HG := Lib.hid hg
  have hlt0 : 4 < w.heap.size := World.block_lt_of_cell? w ⟨4, 0, none⟩ (by rw [hg])
  clear hg
  go_enter Tryz.func54, Tryz.ntmps54
  go_wp2_with fail
  go_loopw [4, 5] (fun o i wr => ∃ (p : Nat) (l : List Bs), p ≤ s.length ∧ i = .int .i64 p ∧ l.length ≤ p ∧ Txs w.heap.size wr o l ∧ Below w.heap.size w wr ∧ AllRel s p l) (fun _ i _ => s.length - (RowKit.intOf i).toNat)
  case atStart => exact ⟨0, [], Nat.zero_le _, rfl, Nat.le_refl _, Txs.nil _ _, Below.refl _ _, AllRel.start s⟩
  case round =>
    obtain ⟨p, l, hp, rfl, hll, ho, hbel, hr⟩ := hrel
    have hle := hbel.size
    have HE : Hid (ErrT wr) := Lib.hid ((hbel.cell (p := ⟨4, 0, none⟩) hlt0).trans HG.out)
    by_cases hlt : p < s.length
    · have hpi : (p : Int) < ((bs s).size : Int) := by omega
      have HC := Lib.hid (wGet_any s p 999999 wr (by omega) ⟨by omega, by omega⟩ ⟨by omega, by omega⟩ HE.out)
      have HR := Lib.hid hr
      have HO := Lib.hid ho
      clear hr ho
      match hgr : getR s p 999999 with
      | .error y =>
        have hy := getR_err hgr
        rw [hgr] at HC
        have hy0 : ((y : Int) != 0) = true := by simp; omega
        have HQ := Lib.hid (AllRel.err HR.out hlt hgr)
        clear hgr hy
        go_wp2_with fail
        refine HC.out.mono ?_
        rintro e w2 ⟨rfl, hb⟩
        unfold gX gQ gE
        go_wp2_with fail
        go_ret2
        exact ⟨hbel.trans (hb.mono hle), .slice none 0 0, by rw [HQ.out.2]; rfl, by rw [HQ.out.1]; exact Row.nil _ _ _ _ _ (Nat.zero_le _)⟩
      | .ok (x, q) =>
        have HQ := Lib.hid (AllRel.step HR.out hp hgr)
        obtain ⟨q1, q2, _⟩ := getR_ok hp hgr
        rw [hgr] at HC
        clear hgr
        go_wp2_with fail
        refine HC.out.mono ?_
        rintro e w2 ⟨rfl, hb⟩
        unfold gX gQ gE
        have HO2 := Lib.hid (HO.out.below hb)
        have hb2 : Below w.heap.size w w2 := hbel.trans (hb.mono hle)
        have hle2 := hb2.size
        go_wp2_with (at_builtin; refine app_text rfl (.tmp 23) (.tmp 25) rfl w.heap.size _ l x rfl rfl HO2.out hle2 (by omega) ?_; intro v' w4 h8 h9 h10)
        go_roundw
        case rel => exact ⟨q, l ++ [x], q2, rfl, by simp; omega, h8, hb2.trans h9, HQ.out⟩
        case measure => simp [RowKit.intOf]; omega
    · obtain rfl : p = s.length := by omega
      have HQ := Lib.hid (AllRel.stop hr)
      clear hr
      go_wp2_with fail
      go_ret2
      exact ⟨hbel, _, by rw [HQ.out.2]; rfl, by rw [HQ.out.1]; exact ho.row⟩

end Go.Proofs.YtkoegbjnhoecoaaGreatDoor
namespace Go.Proofs.YtkoegbjnhoecoaaGreatDoor
open Go.RowKit Go.Lib Go.Sort Tx
theorem one_byte (w : World) (g : Nat) (hg : g = w.heap.size) (z : Int) (c : UInt8) (hz : z = (c.toNat : Int)) : (convert 86 9 (.slice (some ⟨g, 0, none⟩) 1 1)).run Tryz.prog (w.alloc (.cells #[.int .u8 z] 5)) = .ok (.string (bs [c])) (w.alloc (.cells #[.int .u8 z] 5)) := by
  subst hz hg
  exact run_convert_bytes_back (P := Tryz.prog) _ 86 9 5 ⟨w.heap.size, 0, none⟩ 1 [c] Tryz.underlying86 Tryz.underlying5 Tryz.underlying9 (fun j hj => by
    have : j = 0 := by simpa using hj
    subst this
    rw [Addr.add_lit, cell_of_row _ w.heap.size 0 _ 5 (0, 0) (heap_alloc_new w _)]
    rfl)
end Go.Proofs.YtkoegbjnhoecoaaGreatDoor
namespace Go.Proofs.YtkoegbjnhoecoaaGreatDoor
open Go.RowKit Go.Lib Go.Sort Tx

/-- What the listed variables hold, so far as it is read. -/
structure Gl (w : World) : Prop where
  et : ErrT w
  tab : Lib.TabIs Tryz.prog w "internal/strconv.uint64pow10" .u64 Lib.pow10Tab
theorem Gl.lt {w : World} (h : Gl w) : 4 < w.heap.size := World.block_lt_of_cell? w ⟨4, 0, none⟩ (by rw [h.et])
theorem Gl.below {w w' : World} (h : Gl w) (hb : Below w.heap.size w w') : Gl w' :=
  ⟨(hb.cell (p := ⟨4, 0, none⟩) h.lt).trans h.et, tabBelow_of_tabIs h.tab w' hb⟩
theorem below_via {w w1 w2 : World} (h : Below w.heap.size w w1) (h2 : Below w1.heap.size w1 w2) : Below w.heap.size w w2 := h.trans (h2.mono h.size)

theorem itoa_any (n : Nat) (hn : n ≤ 1000000000) (w : World) (hg : Gl w) :
    Calls Tryz.prog 49 #[.int .i64 n] w fun e w' => e = .returned (vs (Lib.decDigits n)) ∧ Below w.heap.size w w' := by
  refine (Tryz.strconv_Itoa (n : Int) (by omega) (by omega) w hg.tab).mono ?_
  rintro e w' ⟨rfl, k, os, rfl⟩
  refine ⟨?_, below_grow _ w (Nat.le_refl _) k os⟩
  have : Lib.itoa (n : Int) = Lib.decDigits n := by unfold Lib.itoa; rw [if_neg (by omega)]; simp
  rw [this]
  rfl

theorem dig_len (n : Nat) (hn : n ≤ 1000000000) : (Lib.decDigits n).length ≤ 10 := by
  have : ∀ k m : Nat, m < 10 ^ (k + 1) → (Lib.decDigits m).length ≤ k + 1 := by
    intro k
    induction k with
    | zero => intro m hm; rw [Lib.decDigits, dif_pos (by omega)]; simp
    | succ k ih =>
      intro m hm
      by_cases h : m < 10
      · rw [Lib.decDigits, dif_pos h]; simp
      · rw [Lib.decDigits, dif_neg h]
        have := ih (m / 10) (by rw [Nat.pow_succ] at hm; omega)
        simp
        omega
  exact this 9 n (by omega)

set_option maxHeartbeats 2000000 in
theorem wPut_any (s : Bs) (w : World) (hs : s.length ≤ 1000000000) (hg : Gl w) :
    Calls Tryz.prog 46 #[vs s] w fun e w' => e = .returned (vs (Wr.put s)) ∧ Below w.heap.size w w' := by
  have hz := bs_size s
  have HC := Lib.hid (itoa_any s.length hs w hg)
  have hd := dig_len s.length hs
  have HP : Hid (Wr.put s = Lib.decDigits s.length ++ 58 :: (s ++ [44])) := Lib.hid rfl
  generalize Lib.decDigits s.length = d at *
  have hdz : (bs d).size = d.length := bs_size d
  obtain ⟨T1, hT1⟩ : ∃ T, T = d ++ [58] := ⟨_, rfl⟩
  obtain ⟨T2, hT2⟩ : ∃ T, T = T1 ++ s := ⟨_, rfl⟩
  obtain ⟨T3, hT3⟩ : ∃ T, T = T2 ++ [44] := ⟨_, rfl⟩
  have o1 : bs d ++ (⟨#[58]⟩ : ByteArray) = bs T1 := by show bs d ++ bs [58] = _; rw [hT1, bs_append]
  have o2 : bs T1 ++ bs s = bs T2 := by rw [hT2, bs_append]
  have o3 : bs T2 ++ (⟨#[44]⟩ : ByteArray) = bs T3 := by show bs T2 ++ bs [44] = _; rw [hT3, bs_append]
  have l1 : (bs T1).size = d.length + 1 := by rw [bs_size, hT1]; simp
  have l2 : (bs T2).size = d.length + 1 + s.length := by rw [bs_size, hT2, hT1]; simp; omega
  have HE : Hid (T3 = Wr.put s) := Lib.hid (by rw [HP.out, hT3, hT2, hT1]; simp)
  clear hT1 hT2 hT3 HP hg
  go_enter Tryz.func46, Tryz.ntmps46
  go_wp2_with fail
  refine HC.out.mono ?_
  rintro e w1 ⟨rfl, hb⟩
  go_wp2_with fail
  go_ret
  exact ⟨by rw [HE.out]; rfl, hb⟩

end Go.Proofs.YtkoegbjnhoecoaaGreatDoor
namespace Go.Proofs.YtkoegbjnhoecoaaGreatDoor
open Go.RowKit

theorem laidVars_mem {P : Program} {w : World} : ∀ (l : List (String × DataW Unit)) (ps : List MemPlace), DataW.LaidVars P w l ps → ∀ n d, (n, d) ∈ l →
    ∃ g t cs fuel p, P.globalNamed n = some g ∧ (P.globals[g]?).map (·.type) = some t ∧ w.var? P n = some cs ∧ DataW.trod (fun _ => ()) P w 0 (fun _ => true) false fuel t cs.toList = some (d, p) := by
  intro l
  induction l with
  | nil => intro ps _ n d h; cases h
  | cons x r ih =>
    intro ps h n d hm
    obtain ⟨n0, d0⟩ := x
    obtain ⟨g, t, cs, fuel, p, q, h1, h2, h3, h4, h5, _⟩ := h
    rcases List.mem_cons.1 hm with e | hm
    · injection e with e1 e2
      subst e1 e2
      exact ⟨g, t, cs, fuel, p, h1, h2, h3, h4⟩
    · exact ih q h5 n d hm
theorem tabIs_of_mem {P : Program} {W : World} {name : String} {k : IntKind} {zs : List Int} {l : List (String × DataW Unit)} {g : Nat} {t e : TypeId} {n : Nat}
    (hg : P.globalNamed name = some g) (hty : (P.globals[g]?).map (·.type) = some t) (ht : P.underlying t = some (.array n e)) (he : P.underlying e = some (.int k)) (hce : P.cellsOf e = 1) (hct : P.cellsOf t = n)
    (h : laidMet P l W) (hm : (name, Lib.tabData k zs) ∈ l) : Lib.TabIs P W name k zs := by
  obtain ⟨ps, h1, _⟩ := h
  obtain ⟨g', t', cs, fuel, p, hg', ht', hvar, hd⟩ := laidVars_mem l ps h1 _ _ hm
  obtain rfl := Option.some.inj (hg.symm.trans hg')
  obtain rfl := Option.some.inj (hty.symm.trans ht')
  unfold Lib.TabIs
  rw [hvar, ← Lib.cells_of_tab ht he hce hct hd]

/-- The listed variables: the tables, and the handle. -/
def plainL : List (String × DataW Unit) := [("math/bits.deBruijn32tab", Rows.laid_math_bits_deBruijn32tab), ("math/bits.deBruijn64tab", Rows.laid_math_bits_deBruijn64tab), ("internal/strconv.uint64pow10", Rows.laid_internal_strconv_uint64pow10), ("strconv.ErrRange", Rows.laid_strconv_ErrRange), ("strconv.ErrSyntax", Rows.laid_strconv_ErrSyntax)]
def handleL : List (String × DataW Unit) := [("errors.errorType", Rows.laid_errors_errorType)]
theorem laid_parts (W : World) (l : List (String × DataW Unit)) (h1 : (l.filter fun x => x.2.handleName?.isNone) = plainL) (h2 : (l.filter fun x => x.2.handleName?.isSome) = handleL) : laidMetH Tryz.prog l W ↔ laidMet Tryz.prog plainL W ∧ handlesMet Tryz.prog handleL W := by
  unfold laidMetH
  rw [h2, h1]
  rfl
theorem gErrT : Tryz.prog.globalNamed "errors.errorType" = some 4 := by kernel_rfl
theorem gRtype : (Tryz.prog.cutTypes.find? (·.1 == "internal/reflectlite.rtype")).map (·.2) = some 165 := by kernel_rfl
theorem gOneRow : ((List.range 206).filter fun t => Tryz.prog.rowNamed t [101, 114, 114, 111, 114]) = [90] := by kernel_rfl
theorem gSize : Tryz.prog.types.size = 206 := by kernel_rfl
theorem gHandle : Rows.laid_errors_errorType (H := Unit) = .iface "internal/reflectlite.rtype" (.agg [.ptr (.lit (.string [101, 114, 114, 111, 114]))]) := rfl
theorem gl_of_laid {W : World} {l : List (String × DataW Unit)} (h1 : (l.filter fun x => x.2.handleName?.isNone) = plainL) (h2 : (l.filter fun x => x.2.handleName?.isSome) = handleL) (h : laidMetH Tryz.prog l W) : Gl W := by
  obtain ⟨hp, hh⟩ := (laid_parts W l h1 h2).1 h
  refine ⟨?_, ?_⟩
  · obtain ⟨name, u, ty, e1, e2, e3, e4, e5⟩ := hh _ (List.mem_singleton.2 rfl)
    have en : name = [101, 114, 114, 111, 114] := (Option.some.inj e1).symm
    subst en
    obtain rfl := Option.some.inj (gRtype.symm.trans e2)
    have hm : ty ∈ (List.range 206).filter fun t => Tryz.prog.rowNamed t [101, 114, 114, 111, 114] := List.mem_filter.2 ⟨List.mem_range.2 (by rw [← gSize]; exact e3), e4⟩
    rw [gOneRow] at hm
    obtain rfl := List.mem_singleton.1 hm
    have hh : typeHandle Tryz.prog 90 = .pointer (some ⟨7, 90, none⟩) := by kernel_rfl
    rw [hh] at e5
    simpa using World.var?_cell gErrT e5 0
  · exact tabIs_of_mem (g := 3) (t := 144) (e := 125) (n := 20) (by kernel_rfl) (by kernel_rfl) Tryz.underlying144 Tryz.underlying125 (by kernel_rfl) (by kernel_rfl) hp (List.mem_cons_of_mem _ (List.mem_cons_of_mem _ List.mem_cons_self))

/-- A world that meets the condition. -/
noncomputable def handleW (os : Os) : World :=
  let w0 := World.holding Tryz.prog os ⟨#[], #[], []⟩
  { w0 with heap := w0.heap.modify 4 fun
      | .cells _ t frozen => .cells #[.iface 165 (.agg #[.pointer (some ⟨7, 90, none⟩)])] t frozen
      | o => o }
noncomputable def laidW (os : Os) : World := (handleW os).layVars Tryz.prog plainL
theorem laidW_os (os : Os) : (laidW os).os = os := World.layVars_os _ _ _
theorem laidW_met (os : Os) (args : Array Value) (l : List (String × DataW Unit)) (h1 : (l.filter fun x => x.2.handleName?.isNone) = plainL) (h2 : (l.filter fun x => x.2.handleName?.isSome) = handleL) :
    laidMetH Tryz.prog l ((laidW os).forCall (fun _ _ => 0) ⟨#[], args, []⟩).memory := by
  rw [laid_parts _ l h1 h2]
  refine ⟨?_, handlesMet_of_B (by kernel_rfl)⟩
  have e1 : (plainL.filter fun x => (plainL.map (·.1)).contains x.1) = plainL := by kernel_rfl
  have e2 : (plainL.filter fun x => !(plainL.map (·.1)).contains x.1) = [] := by kernel_rfl
  have h : laidMet Tryz.prog plainL (laidW os) := laidMet_layVars (w0 := handleW os) (plainL.map (·.1)) [] (by rw [e1]; rfl) (by rw [e1]; kernel_rfl) (by rw [e1]; kernel_rfl) (by rw [e2]; exact LaidIn.none)
  exact h.of_heap (by simp [World.memory, World.forCall, Input.heap])
theorem laidW_shaped (os : Os) (args : Array Value) (hr : ((laidW os).forCall (fun _ _ => 0) ⟨#[], args, []⟩).variablesZipB Tryz.prog = true)
    (hq : ((((laidW os).forCall (fun _ _ => 0) ⟨#[], args, []⟩)).heap.toList.drop Tryz.prog.globals.size).take ((begin Tryz.prog (fun _ _ => 0) default).world.heap.size - Tryz.prog.globals.size) = (begin Tryz.prog (fun _ _ => 0) default).world.heap.toList.drop Tryz.prog.globals.size) :
    ((laidW os).forCall (fun _ _ => 0) ⟨#[], args, []⟩).Shaped Tryz.prog := World.shaped_of_ZipB hr hq
end Go.Proofs.YtkoegbjnhoecoaaGreatDoor
