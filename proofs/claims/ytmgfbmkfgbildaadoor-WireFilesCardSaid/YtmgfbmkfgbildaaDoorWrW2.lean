/- wire.get, wire.Get. -/
import Derived.Test.YtmgfbmkfgbildaaDoorWrW1
namespace Go.Proofs.YtmgfbmkfgbildaaDoor
open Go.RowKit Go.Lib Go.Sort Tx

abbrev I64 (a : Int) : Prop := -9223372036854775808 ≤ a ∧ a ≤ 9223372036854775807
/-- The text at a place, and the place behind it. -/
def getR (s : Bs) (a top : Int) : Except Nat (Bs × Nat) :=
  if a < 0 ∨ (s.length : Int) < a then .error 1
  else match Wr.get1 (s.drop a.toNat) top.toNat with
    | .error e => .error e
    | .ok (x, r) => .ok (x, s.length - r.length)
def gX (g : Except Nat (Bs × Nat)) : Bs := match g with | .ok (x, _) => x | .error _ => []
def gQ (g : Except Nat (Bs × Nat)) : Nat := match g with | .ok (_, q) => q | .error _ => 0
def gE (g : Except Nat (Bs × Nat)) : Nat := match g with | .ok _ => 0 | .error e => e
theorem get1_eq (s : Bs) (k n q top : Nat) (h : Wr.len (s.drop k) 0 0 = .ok (n, s.drop q)) (hq : q ≤ s.length) :
    Wr.get1 (s.drop k) top = if top < n then .error 3 else if s.length < q + n + 1 then .error 6 else if s[q + n]? ≠ some 44 then .error 5 else .ok ((s.drop q).take n, s.drop (q + n + 1)) := by
  unfold Wr.get1
  rw [h]
  simp only [List.length_drop, List.getElem?_drop, List.drop_drop]
  by_cases h1 : top < n
  · rw [if_pos h1, if_pos h1]
  · rw [if_neg h1, if_neg h1]
    by_cases h2 : s.length < q + n + 1
    · rw [if_pos (by omega), if_pos h2]
    · rw [if_neg (by omega), if_neg h2, Nat.add_assoc]
theorem get1_eqE (s : Bs) (k top x : Nat) (h : Wr.len (s.drop k) 0 0 = .error x) : Wr.get1 (s.drop k) top = .error x := by
  unfold Wr.get1
  rw [h]

def GetPost (s : Bs) (a top : Int) (w : World) (e : Ending) (w' : World) : Prop :=
  Below w.heap.size w w' ∧ ((∃ (x : Bs) (q : Nat), getR s a top = .ok (x, q) ∧ e = .returned (.tuple #[vs x, .int .i64 q, .nilIface])) ∨
    (∃ (y : Nat) (v : Value), getR s a top = .error y ∧ e = .returned (.tuple #[vs [], .int .i64 0, v]) ∧ ErrV w' v y))
theorem GetPost.err {s : Bs} {a top : Int} {w w' : World} {i : Int} {x : Nat} (h : getR s a top = .error x) (hb : Below w.heap.size w w') :
    GetPost s a top w (.returned (.tuple #[.string ⟨#[]⟩, .int .i64 0, .iface 61 (.pointer (some ⟨w'.heap.size, 0, none⟩))])) (w'.alloc (.cells #[.int .i64 i, .int .i64 x] 63)) :=
  ⟨hb.alloc hb.size _, .inr ⟨x, _, h, rfl, errV_new w' i x⟩⟩

set_option maxHeartbeats 4000000 in
theorem get_any (s : Bs) (a top : Int) (w : World) (hs : s.length ≤ 1000000000) (ha : I64 a) (ht : I64 top) :
    Calls Tryd.prog 23 #[vs s, .int .i64 a, .int .i64 top] w (GetPost s a top w) := by
  have hz := bs_size s
  have hm : s.length ≤ maxLen := by simp only [maxLen]; omega
  obtain ⟨ha1, ha2⟩ := ha
  obtain ⟨ht1, ht2⟩ := ht
  by_cases h0 : a < 0 ∨ (s.length : Int) < a
  · have HG : Hid (getR s a top = .error 1) := by show _ = _; unfold getR; rw [if_pos h0]
    by_cases h1 : a < 0
    · go_enter Tryd.func23, Tryd.ntmps23
      go_wp2_with fail
      go_ret3
      exact GetPost.err HG.out (Below.refl _ _)
    · have h2 : (0 : Int) ≤ a := by omega
      have h3 : ((bs s).size : Int) < a := by omega
      go_enter Tryd.func23, Tryd.ntmps23
      go_wp2_with fail
      go_ret3
      exact GetPost.err HG.out (Below.refl _ _)
  · obtain ⟨k, rfl⟩ : ∃ k : Nat, a = (k : Int) := ⟨a.toNat, by omega⟩
    have hk : k ≤ s.length := by omega
    have i1 : (0 : Int) ≤ (k : Int) := by omega
    have i2 : (k : Int) ≤ ((bs s).size : Int) := by omega
    have HR : Hid (getR s (k : Int) top = match Wr.get1 (s.drop k) top.toNat with | .error e => .error e | .ok (x, r) => .ok (x, s.length - r.length)) := by
      show _ = _
      unfold getR
      rw [if_neg h0]; rfl
    have HL := Lib.hid (length_any s k w hk hm)
    clear hm h0
    go_enter Tryd.func23, Tryd.ntmps23
    go_wp2_with fail
    refine HL.out.mono ?_
    rintro e w1 ⟨hb, ⟨n, q, hl, hn, hkq, hqs, rfl⟩ | ⟨x, v, hl, rfl, hv⟩⟩
    · have hg := get1_eq s k n q top.toNat hl hqs
      have b0 : (q : Int) + (n : Int) ≤ 2000000000 := by omega
      have b1 : (0 : Int) ≤ (q : Int) + (n : Int) := by omega
      by_cases h1 : top.toNat < n
      · rw [if_pos h1] at hg
        have HG : Hid (getR s (k : Int) top = .error 3) := by show _ = _; rw [HR.out, hg]
        clear hg hl
        by_cases htp : 0 < top
        · have h1' : top < (n : Int) := by omega
          go_wp2_with fail
          go_ret3
          exact GetPost.err HG.out hb
        · have h1' : (0 : Int) < (n : Int) := by omega
          have htp' : top ≤ 0 := by omega
          go_wp2_with fail
          go_ret3
          exact GetPost.err HG.out hb
      · rw [if_neg h1] at hg
        by_cases h2 : s.length < q + n + 1
        · rw [if_pos h2] at hg
          have HG : Hid (getR s (k : Int) top = .error 6) := by show _ = _; rw [HR.out, hg]
          have h2' : ((bs s).size : Int) < (q : Int) + (n : Int) + 1 := by omega
          clear hg hl
          by_cases htp : 0 < top
          · have h1' : (n : Int) ≤ top := by omega
            go_wp2_with fail
            go_ret3
            exact GetPost.err HG.out hb
          · have h1' : (n : Int) ≤ 0 := by omega
            have htp' : top ≤ 0 := by omega
            go_wp2_with fail
            go_ret3
            exact GetPost.err HG.out hb
        · rw [if_neg h2] at hg
          have h2' : (q : Int) + (n : Int) + 1 ≤ ((bs s).size : Int) := by omega
          have hqn : q + n < s.length := by omega
          have hqb : q + n < (bs s).size := by omega
          obtain ⟨c, hc⟩ : ∃ c, s[q + n]? = some c := ⟨_, List.getElem?_eq_getElem hqn⟩
          have hgb : (bs s)[q + n]'hqb = c := by
            have := List.getElem?_eq_getElem hqn
            exact Option.some.inj (this.symm.trans hc)
          rw [hc] at hg
          clear hc
          have h3' : (q : Int) + (n : Int) < ((bs s).size : Int) := by omega
          have h5' : ((q : Int) + (n : Int)).toNat = q + n := by omega
          have hx := bs_extract' s q (q + n)
          by_cases h3 : c = 44
          · subst h3
            rw [if_neg (by simp)] at hg
            have HG : Hid (getR s (k : Int) top = .ok ((s.take (q + n)).drop q, q + n + 1)) := by
              show _ = _
              rw [HR.out, hg]
              simp only [List.length_drop]
              rw [List.drop_take, show q + n - q = n by omega, show s.length - (s.length - (q + n + 1)) = q + n + 1 by omega]
            generalize (s.take (q + n)).drop q = X at *
            clear hg hl
            by_cases htp : 0 < top
            · have h1' : (n : Int) ≤ top := by omega
              go_wp2_with fail
              go_ret3
              exact ⟨hb, .inl ⟨X, q + n + 1, HG.out, by go_num⟩⟩
            · have h1' : (n : Int) ≤ 0 := by omega
              have htp' : top ≤ 0 := by omega
              go_wp2_with fail
              go_ret3
              exact ⟨hb, .inl ⟨X, q + n + 1, HG.out, by go_num⟩⟩
          · rw [if_pos (by simpa using h3)] at hg
            have HG : Hid (getR s (k : Int) top = .error 5) := by show _ = _; rw [HR.out, hg]
            have hc : ((c.toNat : Int) != 44) = true := by
              simp
              intro h
              exact h3 (UInt8.toNat_inj.1 (by simpa using (by omega : c.toNat = 44)))
            clear hg hl h3
            by_cases htp : 0 < top
            · have h1' : (n : Int) ≤ top := by omega
              go_wp2_with fail
              go_ret3
              exact GetPost.err HG.out hb
            · have h1' : (n : Int) ≤ 0 := by omega
              have htp' : top ≤ 0 := by omega
              go_wp2_with fail
              go_ret3
              exact GetPost.err HG.out hb
    · have HG : Hid (getR s (k : Int) top = .error x) := by show _ = _; rw [HR.out, get1_eqE s k top.toNat x hl]
      obtain ⟨g, rfl, hc⟩ := hv
      have HC := Lib.hid hc
      clear hl hc
      go_wp2_with fail
      go_ret3
      exact ⟨hb, .inr ⟨x, _, HG.out, rfl, g, rfl, HC.out⟩⟩

set_option maxHeartbeats 4000000 in
theorem wGet_any (s : Bs) (a top : Int) (w : World) (hs : s.length ≤ 1000000000) (ha : I64 a) (ht : I64 top) (hg : ErrT w) :
    Calls Tryd.prog 9 #[vs s, .int .i64 a, .int .i64 top] w fun e w' => e = .returned (.tuple #[vs (gX (getR s a top)), .int .i64 (gQ (getR s a top)), .int .i64 (gE (getR s a top))]) ∧ Below w.heap.size w w' := by
  have HL := Lib.hid (get_any s a top w hs ha ht)
  have HG := Lib.hid hg
  clear hs ha ht hg
  generalize hR : getR s a top = R at *
  have HR := Lib.hid hR
  clear hR
  go_enter Tryd.func9, Tryd.ntmps9
  go_wp2_with fail
  refine HL.out.mono ?_
  rintro e w1 ⟨hb, ⟨x, q, h1, rfl⟩ | ⟨y, v, h1, rfl, hv⟩⟩
  · rw [HR.out] at h1
    subst h1
    go_wp2_with fail
    go_ret3
    exact ⟨rfl, hb⟩
  · rw [HR.out] at h1
    subst h1
    have hlt : 0 < w.heap.size := World.block_lt_of_cell? w ⟨0, 0, none⟩ (by rw [HG.out])
    have HE : Hid (ErrT w1) := by exact Lib.hid ((hb.cell (p := ⟨0, 0, none⟩) hlt).trans HG.out)
    have HN := Lib.hid (number_any v y w1 HE.out hv)
    obtain ⟨g, rfl, hc⟩ := hv
    clear hc
    go_wp2_with fail
    refine HN.out.mono ?_
    rintro e w2 ⟨rfl, hb2⟩
    go_wp2_with fail
    go_ret3
    exact ⟨rfl, hb.trans (hb2.mono hb.size)⟩
end Go.Proofs.YtmgfbmkfgbildaaDoor
