/- The walk of stetlaw16.NameForms. -/
import Derived.Test.YtmnekomoiffebaaDoorRows
import Derived.Test.YtmnekomoiffebaaDoorNmFx
import Derived.Test.YtmnekomoiffebaaDoorNmMx
import Derived.Test.YtmnekomoiffebaaDoorNmL1
import Derived.Test.YtmnekomoiffebaaDoorNmL2
import Derived.Test.YtmnekomoiffebaaDoorNmL3
import Derived.Test.YtmnekomoiffebaaDoorNmPl3
import Derived.Lib.SlBytesConst
namespace Go.Proofs.YtmnekomoiffebaaDoor
open Go.RowKit Go.Lib Go.Sort Tx

/-- The letters' row: any one of its cells. -/
theorem vow_cell (W : World) (g : Nat) (hg : g = W.heap.size) (c : UInt8) : (W.alloc (.cells #[.int .u8 97, .int .u8 101, .int .u8 105, .int .u8 111, .int .u8 117, .int .u8 65, .int .u8 69, .int .u8 73, .int .u8 79, .int .u8 85] 5 (10, 11))).cell? ⟨g, c.toNat % 10, none⟩ = some (.int .u8 ((vow c).toNat : Int)) := by
  subst hg
  rw [cell_of_row _ W.heap.size _ _ 5 (10, 11) (heap_alloc_new W _)]
  have h : c.toNat % 10 < 10 := by omega
  have key : ∀ r, ∀ h : r < 10, (#[Value.int .u8 97, .int .u8 101, .int .u8 105, .int .u8 111, .int .u8 117, .int .u8 65, .int .u8 69, .int .u8 73, .int .u8 79, .int .u8 85] : Array Value)[r]? = some (.int .u8 (((vw[r]'(by rw [vw_length]; exact h)).toNat : Int))) := by
    intro r hr
    rcases r with _ | _ | _ | _ | _ | _ | _ | _ | _ | _ | r
    all_goals first | rfl | omega
  exact key _ h
theorem vow_conv (W : World) : (convert 45 45 (.slice (some ⟨W.heap.size, 0, none⟩) 10 10)).run Tryd.prog (W.alloc (.cells #[.int .u8 97, .int .u8 101, .int .u8 105, .int .u8 111, .int .u8 117, .int .u8 65, .int .u8 69, .int .u8 73, .int .u8 79, .int .u8 85] 5)) =
    .ok (.slice (some ⟨W.heap.size, 0, none⟩) 10 10) (W.alloc (.cells #[.int .u8 97, .int .u8 101, .int .u8 105, .int .u8 111, .int .u8 117, .int .u8 65, .int .u8 69, .int .u8 73, .int .u8 79, .int .u8 85] 5 (10, 11))) :=
  Lib.run_convert_bytes_const W _ _ _ 10 10 Tryd.underlying45 Tryd.underlying5
theorem tmod_nat (n : Nat) : Int.tmod (n : Int) 10 = ((n % 10 : Nat) : Int) := by rw [Int.tmod_eq_emod_of_nonneg (by omega)]; omega

/-- A row of three texts, in each world behind one. -/
abbrev R3S (w : World) (g : Nat) (a v b : Bs) (wx : World) : Prop :=
  wx.cell? ⟨g, 0, none⟩ = some (.string (bs a)) ∧ wx.cell? ⟨g, 1, none⟩ = some (.string (bs v)) ∧ wx.cell? ⟨g, 2, none⟩ = some (.string (bs b)) ∧ Below w.heap.size w wx
structure R3 (w : World) (g : Nat) (a v b : Bs) : Prop where
  c0 : w.cell? ⟨g, 0, none⟩ = some (.string (bs a))
  c1 : w.cell? ⟨g, 1, none⟩ = some (.string (bs v))
  c2 : w.cell? ⟨g, 2, none⟩ = some (.string (bs b))
  lt : g < w.heap.size
theorem R3.below {w wx : World} {g : Nat} {a v b : Bs} (h : R3 w g a v b) (hb : Below w.heap.size w wx) : R3 wx g a v b :=
  ⟨(hb.cell (p := ⟨g, 0, none⟩) h.lt).trans h.c0, (hb.cell (p := ⟨g, 1, none⟩) h.lt).trans h.c1, (hb.cell (p := ⟨g, 2, none⟩) h.lt).trans h.c2, Nat.lt_of_lt_of_le h.lt hb.size⟩
theorem R3.at {w wx : World} {g : Nat} {a v b : Bs} (h : R3 w g a v b) (hb : Below w.heap.size w wx) : R3S w g a v b wx :=
  ⟨(h.below hb).c0, (h.below hb).c1, (h.below hb).c2, hb⟩
theorem R3S.bel {w wx : World} {g : Nat} {a v b : Bs} (h : R3S w g a v b wx) : Below w.heap.size w wx := h.2.2.2
theorem f_block {w1 w2 : World} {c : Array Value} {t : TypeId} (hb : Below (w1.alloc (.cells c t)).drew.heap.size (w1.alloc (.cells c t)).drew w2) : w2.heap[w1.heap.size]? = some (.cells c t (0, 0)) :=
  (hb.block _ (by show w1.heap.size < (w1.alloc _).heap.size; rw [World.size_alloc]; exact Nat.lt_succ_self _)).trans (heap_alloc_new w1 _)

/-- Four persons' boxes and three texts, in each world behind one. -/
abbrev F4 (w : World) (h7 h8 h9 h10 g3 : Nat) (a v b : Bs) (wx : World) : Prop :=
  wx.cell? ⟨h7, 0, none⟩ = some (.string (bs a)) ∧ wx.cell? ⟨h7, 1, none⟩ = some (.string (bs v)) ∧ wx.cell? ⟨h7, 2, none⟩ = some (.string (bs b)) ∧ wx.cell? ⟨h7, 3, none⟩ = some (.string ⟨#[]⟩) ∧ wx.cell? ⟨h8, 0, none⟩ = some (.string (bs a)) ∧ wx.cell? ⟨h8, 1, none⟩ = some (.string (bs v)) ∧ wx.cell? ⟨h8, 2, none⟩ = some (.string (bs b)) ∧ wx.cell? ⟨h8, 3, none⟩ = some (.string ⟨#[]⟩) ∧ wx.cell? ⟨h9, 0, none⟩ = some (.string (bs a)) ∧ wx.cell? ⟨h9, 1, none⟩ = some (.string ⟨#[]⟩) ∧ wx.cell? ⟨h9, 2, none⟩ = some (.string (bs b)) ∧ wx.cell? ⟨h9, 3, none⟩ = some (.string ⟨#[]⟩) ∧ wx.cell? ⟨h10, 0, none⟩ = some (.string (bs a)) ∧ wx.cell? ⟨h10, 1, none⟩ = some (.string ⟨#[]⟩) ∧ wx.cell? ⟨h10, 2, none⟩ = some (.string (bs b)) ∧ wx.cell? ⟨h10, 3, none⟩ = some (.string ⟨#[]⟩) ∧ wx.cell? ⟨g3, 0, none⟩ = some (.string (bs a)) ∧ wx.cell? ⟨g3, 1, none⟩ = some (.string (bs v)) ∧ wx.cell? ⟨g3, 2, none⟩ = some (.string (bs b)) ∧ Below w.heap.size w wx
theorem F4.of {w wx : World} {h7 h8 h9 h10 g3 : Nat} {a v b : Bs} (x7 : Bx w h7 ⟨a, v, b, []⟩) (x8 : Bx w h8 ⟨a, v, b, []⟩) (x9 : Bx w h9 ⟨a, [], b, []⟩) (x10 : Bx w h10 ⟨a, [], b, []⟩) (t : R3 w g3 a v b) (hb : Below w.heap.size w wx) : F4 w h7 h8 h9 h10 g3 a v b wx := by
  obtain ⟨a0, a1, a2, a3⟩ := (x7.below hb).cells
  obtain ⟨b0, b1, b2, b3⟩ := (x8.below hb).cells
  obtain ⟨c0, c1, c2, c3⟩ := (x9.below hb).cells
  obtain ⟨d0, d1, d2, d3⟩ := (x10.below hb).cells
  have t' := t.below hb
  exact ⟨a0, a1, a2, a3, b0, b1, b2, b3, c0, c1, c2, c3, d0, d1, d2, d3, t'.c0, t'.c1, t'.c2, hb⟩
theorem F4.bel {p1 p2 p3 p4 p5 p6 p7 p8 p9 p10 p11 p12 p13 p14 p15 p16 p17 p18 p19 q : Prop} (x : p1 ∧ p2 ∧ p3 ∧ p4 ∧ p5 ∧ p6 ∧ p7 ∧ p8 ∧ p9 ∧ p10 ∧ p11 ∧ p12 ∧ p13 ∧ p14 ∧ p15 ∧ p16 ∧ p17 ∧ p18 ∧ p19 ∧ q) : q := x.2.2.2.2.2.2.2.2.2.2.2.2.2.2.2.2.2.2.2

theorem ref_av (a v b : Bs) (w : World) : Calls Tryd.prog 14 #[.agg #[.string (bs a), .string (bs v), .string (bs b), .string ⟨#[]⟩]] w fun e w' => e = .returned (.agg #[.string (bs a), .string (bs v), .string (bs b), .string ⟨#[]⟩]) ∧ Below w.heap.size w w' := ref_any ⟨a, v, b, []⟩ w
theorem ref_ab (a b : Bs) (w : World) : Calls Tryd.prog 14 #[.agg #[.string (bs a), .string ⟨#[]⟩, .string (bs b), .string ⟨#[]⟩]] w fun e w' => e = .returned (.agg #[.string (bs a), .string ⟨#[]⟩, .string (bs b), .string ⟨#[]⟩]) ∧ Below w.heap.size w w' := ref_any ⟨a, [], b, []⟩ w
set_option maxRecDepth 100000 in
set_option maxHeartbeats 8000000 in
theorem nameForms_any (x0 x1 x2 : Bs) (w : World) (hm : MaxL w) (l0 : x0.length ≤ maxLen) (l1 : x1.length ≤ maxLen) (l2 : x2.length ≤ maxLen) :
    Calls Tryd.prog 7 #[.agg #[.string (bs x0), .string (bs x1), .string (bs x2)]] w fun e w' => e = .returned (.bool true) ∧ Below w.heap.size w w' := by
  obtain ⟨a, v, b, ea, ev, eb, za, zv, zb, P1, P2, P3, P4, PS⟩ := forms x0 x1 x2
  obtain ⟨XS, hXS⟩ : ∃ XS : List Bs, XS = [x0, x1, x2] := ⟨_, rfl⟩
  obtain ⟨HD, hHD⟩ : ∃ HD : Bs, HD = [65, 118, 66] := ⟨_, rfl⟩
  obtain ⟨WS, hWS⟩ : ∃ WS : List Bs, WS = [a, v, b] := ⟨_, rfl⟩
  have hXl : XS.length = 3 := by rw [hXS]; rfl
  have hHl : HD.length = 3 := by rw [hHD]; rfl
  have hWl : WS.length = 3 := by rw [hWS]; rfl
  have hW : ∀ k, ∀ h : k < 3, WS[k] = wordOf (HD[k]'(by omega)) (XS[k]'(by omega)) := by
    subst hXS hHD hWS
    intro k hk
    rcases k with _ | _ | _ | k
    · exact ea.symm
    · exact ev.symm
    · exact eb.symm
    · omega
  have hXm : ∀ k, ∀ h : k < 3, (XS[k]'(by omega)).length ≤ maxLen := by
    subst hXS
    intro k hk
    rcases k with _ | _ | _ | k
    · exact l0
    · exact l1
    · exact l2
    · omega
  have HW := Lib.hid hW
  have HXM := Lib.hid hXm
  have HM := Lib.hid hm
  have E := Lib.hid (And.intro P1 (And.intro P2 (And.intro P3 (And.intro P4 PS))))
  have HHD := Lib.hid hHD
  have HWS := Lib.hid hWS
  have HXS := Lib.hid hXS
  clear ea ev eb l0 l1 l2 hW hXm hm P1 P2 P3 P4 PS hHD hWS hXS
  go_enter Tryd.func7, Tryd.ntmps7
  have hb1 : Below w.heap.size w (w.alloc (.cells #[.string (bs x0), .string (bs x1), .string (bs x2)] 44)) := (Below.refl _ _).alloc (Nat.le_refl _) _
  have hbx : (w.alloc (.cells #[.string (bs x0), .string (bs x1), .string (bs x2)] 44)).heap[w.heap.size]? = some (.cells #[.string (bs x0), .string (bs x1), .string (bs x2)] 44 (0, 0)) := heap_alloc_new _ _
  go_upto_region 1 with fail
  replace HM := Lib.hid (HM.out.below hb1)
  have K1 := Lib.hid hb1
  generalize w.alloc (.cells #[.string (bs x0), .string (bs x1), .string (bs x2)] 44) = w1 at *
  generalize hg : w.heap.size = g at *
  have hgl : g < w1.heap.size := lt_of_block hbx
  have HC : Hid (∀ k, ∀ h : k < 3, w1.cell? ⟨g, k, none⟩ = some (.string (bs (XS[k]'(by omega))))) := by
    show ∀ k, _
    intro k hk
    have e := HXS.out
    subst e
    rcases k with _ | _ | _ | k
    · simp [World.cell?, hbx]
    · simp [World.cell?, hbx]
    · simp [World.cell?, hbx]
    · omega
  clear hbx hb1
  have hmade : Txs w1.heap.size (w1.alloc (.cells #[] 9)) (.slice (some ⟨w1.heap.size, 0, none⟩) 0 0) [] := made_txs _ _ (Nat.le_refl _)
  have hbm : Below w1.heap.size w1 (w1.alloc (.cells #[] 9)) := (Below.refl _ _).alloc (Nat.le_refl _) _
  go_upto_block 0 with fail
  go_cut [3] (fun o wx => Txs w1.heap.size wx o WS ∧ Below w1.heap.size w1 wx)
  case first =>
    go_wp2_with fail
    go_loopw [3, 4] (fun o i wr => ∃ k : Nat, k ≤ 3 ∧ i = .int .i64 k ∧ Txs w1.heap.size wr o (WS.take k) ∧ Below w1.heap.size w1 wr) (fun _ i _ => 3 - (intOf i).toNat)
    case atStart => exact ⟨0, Nat.zero_le _, rfl, hmade, hbm⟩
    case round =>
      obtain ⟨k, hk, rfl, ho, hbel⟩ := hrel
      by_cases hlt : k < 3
      · have hx1 : (k : Int) < 3 := by omega
        have hck := HC.out k hlt
        have hWk := HW.out k hlt
        have hxm := HXM.out k hlt
        have hol : (WS.take k).length ≤ 3 := by simp; omega
        obtain ⟨hd, hhd⟩ : ∃ hd, hd = HD[k]'(by omega) := ⟨_, rfl⟩
        have HH : Hid ([(⟨#[65]⟩ : ByteArray), ⟨#[118]⟩, ⟨#[66]⟩][k]'(by simpa using hlt) = bs [hd]) := by
          show _ = _
          rw [hhd]
          have := HHD.out
          subst this
          rcases k with _ | _ | _ | k
          · rfl
          · rfl
          · rfl
          · omega
        rw [← hhd] at hWk
        generalize XS[k]'(by omega) = x at *
        clear hhd
        have hle := hbel.size
        have HO := Lib.hid ho
        clear ho
        go_upto_region 5 with fail
        go_cut [5] (fun s wx => s = .string (bs [hd]) ∧ Below wr.heap.size wr wx)
        case first =>
          have h3 : k = 0 ∨ k = 1 ∨ k = 2 := by omega
          rcases h3 with rfl | rfl | rfl
          all_goals
            go_wp2_with fail
            go_meet
            exact ⟨by rw [← HH.out]; rfl, (Below.refl _ _).alloc (Nat.le_refl _) _⟩
        case rest =>
          obtain ⟨rfl, hb5⟩ := hcut
          have hbw := below_via hbel (hb5.mono (Nat.le_refl _))
          replace HO := Lib.hid (HO.out.below hb5)
          clear hb5 hle
          go_upto_block 2 with fail
          generalize hwy : wc = wy at *
          have hle := hbw.size
          go_cut [5] (fun s wx => s = .string (bs (wordOf hd x)) ∧ Below wy.heap.size wy wx)
          case first =>
            go_wp2_with fail
            go_loopw [5, 6] (fun s i wx => ∃ j : Nat, j ≤ x.length ∧ j ≤ 12 ∧ i = .int .i64 j ∧ s = .string (bs (wordTo hd x j)) ∧ Below wy.heap.size wy wx) (fun _ i _ => 12 - (intOf i).toNat)
            case atStart => exact ⟨0, Nat.zero_le _, Nat.zero_le _, rfl, rfl, Below.refl _ _⟩
            case round =>
              obtain ⟨j, hj, hj2, rfl, rfl, hbj⟩ := hrel
              have hbwj := below_via hbw hbj
              have hcj := (hbwj.cell (p := ⟨g, k, none⟩) hgl).trans hck
              have hxs := bs_size x
              simp only [maxLen] at hxm
              have htl := wordTo_length hd x j
              by_cases hjx : j < x.length
              · have hj1 : (j : Int) < ((bs x).size : Int) := by omega
                by_cases hj12 : j < 12
                · have hj3 : (j : Int) < 12 := by omega
                  have hjb : j < (bs x).size := by omega
                  have hgb : (bs x)[j]'hjb = x[j] := rfl
                  have HS := Lib.hid (wordTo_step hd x j hjx)
                  generalize x[j] = c at *
                  have hwr : wrap64 (c.toNat : Int) = (c.toNat : Int) := by have := c.toNat_lt; unfold wrap64; omega
                  have hcm : ((c.toNat : Int).tmod 10).toNat = c.toNat % 10 := by rw [tmod_nat]; omega
                  have hc0 : c.toNat % 10 < 10 := by omega
                  have hvc := fun W => vow_cell W _ rfl c
                  have hkc := vow_conv
                  have hca := fun o => Lib.cell?_alloc_marked o hcj
                  have hob := one_byte (wr.alloc (.cells #[.int .u8 97, .int .u8 101, .int .u8 105, .int .u8 111, .int .u8 117, .int .u8 65, .int .u8 69, .int .u8 73, .int .u8 79, .int .u8 85] 5 (10, 11))) (wr.heap.size + 1) (by simp) ((vow c).toNat : Int) (vow c) rfl
                  have hzs : (bs (wordTo hd x j)).size + (bs [vow c]).size ≤ 9223372036854775807 := by rw [bs_size, bs_size]; simp; omega
                  go_wp2_with fail
                  go_roundw
                  case rel => exact ⟨j + 1, by omega, by omega, by go_num, by rw [HS.out, bs_append], below_via hbj (((Below.refl _ _).alloc (Nat.le_refl _) _).alloc (by simp) _)⟩
                  case measure => simp [intOf]; omega
                · have hj3 : (12 : Int) ≤ (j : Int) := by omega
                  have HE := Lib.hid (wordTo_end hd x j hj hj2 (.inr (by omega)))
                  go_wp2_with fail
                  go_meet
                  exact ⟨by rw [HE.out], hbj⟩
              · have hj1 : ((bs x).size : Int) ≤ (j : Int) := by omega
                have HE := Lib.hid (wordTo_end hd x j hj hj2 (.inl (by omega)))
                go_wp2_with fail
                go_meet
                exact ⟨by rw [HE.out], hbj⟩
          case rest =>
            obtain ⟨rfl, hb6⟩ := hcut
            have hbw2 := below_via hbw hb6
            have hle2 := hbw2.size
            replace HO := Lib.hid (HO.out.below hb6)
            have HS : Hid (WS.take (k + 1) = WS.take k ++ [wordOf hd x]) := by
              show _ = _
              rw [List.take_succ_eq_append_getElem (by omega), hWk]
            go_wp2_with (at_builtin; refine app_text rfl (.tmp 49) (.tmp 51) rfl w1.heap.size _ _ (wordOf hd x) rfl rfl HO.out (by omega) (by omega) ?_; intro v' w4 h8 h9 h10)
            go_roundw
            case rel => exact ⟨k + 1, by omega, by go_num, by rw [HS.out]; exact h8, hbw2.trans h9⟩
            case measure => simp [intOf]; omega
      · obtain rfl : k = 3 := by omega
        go_wp2_with fail
        go_meet
        exact ⟨by rw [List.take_of_length_le (by omega)] at ho; exact ho, hbel⟩
  case rest =>
    obtain ⟨ho, hb0⟩ := hcut
    obtain ⟨w2, hw2⟩ : ∃ w2, w2 = wc := ⟨_, rfl⟩
    subst hw2
    obtain ⟨P1, P2, P3, P4, PSH⟩ := E.out
    obtain ⟨g3, cap, rfl, q1, q2, q3, q4, q5⟩ := ho.shape (by rw [HWS.out]; simp)
    rw [hWl]
    have T : Hid (R3 w2 g3 a v b) := by
      have q := fun j (h : j < WS.length) => (q5 j h).1
      have e := HWS.out
      subst e
      exact ⟨q 0 (by simp), q 1 (by simp), q 2 (by simp), q2⟩
    have K2 := Lib.hid (below_via (hg.symm ▸ K1.out) hb0 : Below w.heap.size w w2)
    replace HM := Lib.hid (HM.out.below hb0)
    clear ho hb0 q1 q2 q3 q4 q5 HW HXM HC HWS HXS HHD E hmade hbm K1 hgl hXl hHl
    have yal : a.length < 100 := by omega
    have yvl : v.length < 100 := by omega
    have ybl : b.length < 100 := by omega
    have ya : (bs a).size < 100 := by rw [bs_size]; omega
    have yv : (bs v).size < 100 := by rw [bs_size]; omega
    have yb : (bs b).size < 100 := by rw [bs_size]; omega
    have MM := Lib.hid (show (⟨#[32]⟩ : ByteArray).size = 1 ∧ (⟨#[44, 32]⟩ : ByteArray).size = 2 ∧ (⟨#[44]⟩ : ByteArray).size = 1 ∧ (⟨#[65, 46, 32]⟩ : ByteArray).size = 3 from ⟨rfl, rfl, rfl, rfl⟩)
    go_upto_region 11 with fail
    obtain ⟨T11_1, hT11_1⟩ : ∃ T, T = a ++ [32] := ⟨_, rfl⟩
    have oT11_1 : bs a ++ (⟨#[32]⟩ : ByteArray) = bs T11_1 := by show bs a ++ bs [32] = _; rw [hT11_1, bs_append]
    have pT11_1 : ¬ (9223372036854775807 < (bs a).size + 1) := by have := ya; omega
    have qT11_1 : (bs T11_1).size < 210 := by rw [hT11_1, bs_size]; simp only [List.length_append, List.length_cons, List.length_nil]; have := yal; have := yvl; have := ybl; omega
    obtain ⟨T11_2, hT11_2⟩ : ∃ T, T = T11_1 ++ v := ⟨_, rfl⟩
    have oT11_2 : bs T11_1 ++ bs v = bs T11_2 := by rw [hT11_2, bs_append]
    have pT11_2 : ¬ (9223372036854775807 < (bs T11_1).size + (bs v).size) := by have := qT11_1 ; have := yv; omega
    have qT11_2 : (bs T11_2).size < 320 := by rw [hT11_2, bs_size]; simp only [List.length_append, List.length_cons, List.length_nil]; have := yal; have := yvl; have := ybl; rw [bs_size] at qT11_1; omega
    obtain ⟨T11_3, hT11_3⟩ : ∃ T, T = T11_2 ++ [32] := ⟨_, rfl⟩
    have oT11_3 : bs T11_2 ++ (⟨#[32]⟩ : ByteArray) = bs T11_3 := by show bs T11_2 ++ bs [32] = _; rw [hT11_3, bs_append]
    have pT11_3 : ¬ (9223372036854775807 < (bs T11_2).size + 1) := by have := qT11_2; omega
    have qT11_3 : (bs T11_3).size < 430 := by rw [hT11_3, bs_size]; simp only [List.length_append, List.length_cons, List.length_nil]; have := yal; have := yvl; have := ybl; rw [bs_size] at qT11_2; omega
    obtain ⟨T11_4, hT11_4⟩ : ∃ T, T = T11_3 ++ b := ⟨_, rfl⟩
    have oT11_4 : bs T11_3 ++ bs b = bs T11_4 := by rw [hT11_4, bs_append]
    have pT11_4 : ¬ (9223372036854775807 < (bs T11_3).size + (bs b).size) := by have := qT11_3 ; have := yb; omega
    have qT11_4 : (bs T11_4).size < 540 := by rw [hT11_4, bs_size]; simp only [List.length_append, List.length_cons, List.length_nil]; have := yal; have := yvl; have := ybl; rw [bs_size] at qT11_3; omega
    have H11 : T11_4 = a ++ 32 :: (v ++ 32 :: b) := by rw [hT11_4, hT11_3, hT11_2, hT11_1]; simp
    have P11 : parse T11_4 = ⟨a, v, b, []⟩ := by rw [H11]; exact P1
    have z11 : (bs T11_4).size < 20000 := by omega
    clear H11 hT11_1 hT11_2 hT11_3 hT11_4 qT11_1 qT11_2 qT11_3 qT11_4
    go_cut [7] (fun p wx => ∃ q, p = .pointer (some ⟨q, 0, none⟩) ∧ Bx wx q ⟨a, v, b, []⟩ ∧ Below w2.heap.size w2 wx)
    case first => as_aux_lemma =>
      go_region_held3 (fun wx => wx.cell? ⟨g3, 0, none⟩ = some (.string (bs a)) ∧ wx.cell? ⟨g3, 1, none⟩ = some (.string (bs v)) ∧ wx.cell? ⟨g3, 2, none⟩ = some (.string (bs b)) ∧ Below w2.heap.size w2 wx) (first
          | (exact T.out.at k1)
          | (exact T.out.at (Below.refl _ _).drew)
          | (exact T.out.at (Below.refl _ _))
          | (exact T.out.at (below_via k1 ((Below.refl _ _).alloc (Nat.le_refl _) _)))
          | (exact T.out.at ((Below.refl _ _).drew.alloc (Nat.le_refl _) _))
          | (exact T.out.at ((((k1.setCell (by exact Nat.le_refl _) _).setCell (by exact Nat.le_refl _) _).setCell (by exact Nat.le_refl _) _).setCell (by exact Nat.le_refl _) _))) (first
        | (go_at_call 15; refine (parse_any (bs T11_4) _ (HM.out.below (R3S.bel (by assumption))) z11).mono ?_; rintro e x1 ⟨rfl, b1⟩; rw [bs_list, P11]
           (first
             | (with_reducible (have e9 := f_block b1); obtain ⟨⟨f49, f59, f69, f79⟩, g49, g59, g69, g79⟩ := four_cells e9)
             | skip)
           have k1 : Below w2.heap.size w2 x1 := below_via (R3S.bel (by assumption)) b1
           dsimp only))
      all_goals (go_wp2_with fail; go_meet)
      all_goals (first
        | (have x := e9; exact ⟨_, rfl, ⟨cells_setCell (cells_setCell (cells_setCell (cells_setCell e9 _) _) _) _⟩, ((((k1.setCell (by exact Nat.le_refl _) _).setCell (by exact Nat.le_refl _) _).setCell (by exact Nat.le_refl _) _).setCell (by exact Nat.le_refl _) _)⟩)
        | exact ⟨_, rfl, ⟨heap_alloc_new _ _⟩, below_via k1 ((Below.refl _ _).alloc (Nat.le_refl _) _)⟩)
    case rest =>
      obtain ⟨h7, rfl, B7, hb⟩ := hcut
      obtain ⟨w3, hw3⟩ : ∃ w', w' = wc := ⟨_, rfl⟩
      subst hw3
      replace T := Lib.hid (T.out.below hb)
      replace K2 := Lib.hid (below_via K2.out hb)
      replace HM := Lib.hid (HM.out.below hb)
      replace B7 := Lib.hid B7
      clear hb z11 P11 oT11_1 oT11_2 oT11_3 oT11_4 pT11_1 pT11_2 pT11_3 pT11_4
      go_upto_region 12 with fail
      obtain ⟨T12_1, hT12_1⟩ : ∃ T, T = v ++ [32] := ⟨_, rfl⟩
      have oT12_1 : bs v ++ (⟨#[32]⟩ : ByteArray) = bs T12_1 := by show bs v ++ bs [32] = _; rw [hT12_1, bs_append]
      have pT12_1 : ¬ (9223372036854775807 < (bs v).size + 1) := by have := yv; omega
      have qT12_1 : (bs T12_1).size < 210 := by rw [hT12_1, bs_size]; simp only [List.length_append, List.length_cons, List.length_nil]; have := yal; have := yvl; have := ybl; omega
      obtain ⟨T12_2, hT12_2⟩ : ∃ T, T = T12_1 ++ b := ⟨_, rfl⟩
      have oT12_2 : bs T12_1 ++ bs b = bs T12_2 := by rw [hT12_2, bs_append]
      have pT12_2 : ¬ (9223372036854775807 < (bs T12_1).size + (bs b).size) := by have := qT12_1 ; have := yb; omega
      have qT12_2 : (bs T12_2).size < 320 := by rw [hT12_2, bs_size]; simp only [List.length_append, List.length_cons, List.length_nil]; have := yal; have := yvl; have := ybl; rw [bs_size] at qT12_1; omega
      obtain ⟨T12_3, hT12_3⟩ : ∃ T, T = T12_2 ++ [44,32] := ⟨_, rfl⟩
      have oT12_3 : bs T12_2 ++ (⟨#[44, 32]⟩ : ByteArray) = bs T12_3 := by show bs T12_2 ++ bs [44, 32] = _; rw [hT12_3, bs_append]
      have pT12_3 : ¬ (9223372036854775807 < (bs T12_2).size + 2) := by have := qT12_2; omega
      have qT12_3 : (bs T12_3).size < 430 := by rw [hT12_3, bs_size]; simp only [List.length_append, List.length_cons, List.length_nil]; have := yal; have := yvl; have := ybl; rw [bs_size] at qT12_2; omega
      obtain ⟨T12_4, hT12_4⟩ : ∃ T, T = T12_3 ++ a := ⟨_, rfl⟩
      have oT12_4 : bs T12_3 ++ bs a = bs T12_4 := by rw [hT12_4, bs_append]
      have pT12_4 : ¬ (9223372036854775807 < (bs T12_3).size + (bs a).size) := by have := qT12_3 ; have := ya; omega
      have qT12_4 : (bs T12_4).size < 540 := by rw [hT12_4, bs_size]; simp only [List.length_append, List.length_cons, List.length_nil]; have := yal; have := yvl; have := ybl; rw [bs_size] at qT12_3; omega
      have H12 : T12_4 = v ++ 32 :: (b ++ 44 :: 32 :: a) := by rw [hT12_4, hT12_3, hT12_2, hT12_1]; simp
      have P12 : parse T12_4 = ⟨a, v, b, []⟩ := by rw [H12]; exact P2
      have z12 : (bs T12_4).size < 20000 := by omega
      clear H12 hT12_1 hT12_2 hT12_3 hT12_4 qT12_1 qT12_2 qT12_3 qT12_4
      go_cut [8] (fun p wx => ∃ q, p = .pointer (some ⟨q, 0, none⟩) ∧ Bx wx q ⟨a, v, b, []⟩ ∧ Below w3.heap.size w3 wx)
      case first => as_aux_lemma =>
        go_region_held3 (fun wx => wx.cell? ⟨g3, 0, none⟩ = some (.string (bs a)) ∧ wx.cell? ⟨g3, 1, none⟩ = some (.string (bs v)) ∧ wx.cell? ⟨g3, 2, none⟩ = some (.string (bs b)) ∧ Below w3.heap.size w3 wx) (first
            | (exact T.out.at k1)
            | (exact T.out.at (Below.refl _ _).drew)
            | (exact T.out.at (Below.refl _ _))
            | (exact T.out.at (below_via k1 ((Below.refl _ _).alloc (Nat.le_refl _) _)))
            | (exact T.out.at ((Below.refl _ _).drew.alloc (Nat.le_refl _) _))
            | (exact T.out.at ((((k1.setCell (by exact Nat.le_refl _) _).setCell (by exact Nat.le_refl _) _).setCell (by exact Nat.le_refl _) _).setCell (by exact Nat.le_refl _) _))) (first
          | (go_at_call 15; refine (parse_any (bs T12_4) _ (HM.out.below (R3S.bel (by assumption))) z12).mono ?_; rintro e x1 ⟨rfl, b1⟩; rw [bs_list, P12]
             (first
               | (with_reducible (have e9 := f_block b1); obtain ⟨⟨f49, f59, f69, f79⟩, g49, g59, g69, g79⟩ := four_cells e9)
               | skip)
             have k1 : Below w3.heap.size w3 x1 := below_via (R3S.bel (by assumption)) b1
             dsimp only))
        all_goals (go_wp2_with fail; go_meet)
        all_goals (first
          | (have x := e9; exact ⟨_, rfl, ⟨cells_setCell (cells_setCell (cells_setCell (cells_setCell e9 _) _) _) _⟩, ((((k1.setCell (by exact Nat.le_refl _) _).setCell (by exact Nat.le_refl _) _).setCell (by exact Nat.le_refl _) _).setCell (by exact Nat.le_refl _) _)⟩)
          | exact ⟨_, rfl, ⟨heap_alloc_new _ _⟩, below_via k1 ((Below.refl _ _).alloc (Nat.le_refl _) _)⟩)
      case rest =>
        obtain ⟨h8, rfl, B8, hb⟩ := hcut
        obtain ⟨w4, hw4⟩ : ∃ w', w' = wc := ⟨_, rfl⟩
        subst hw4
        replace T := Lib.hid (T.out.below hb)
        replace K2 := Lib.hid (below_via K2.out hb)
        replace HM := Lib.hid (HM.out.below hb)
        replace B7 := Lib.hid (B7.out.below hb)
        replace B8 := Lib.hid B8
        clear hb z12 P12 oT12_1 oT12_2 oT12_3 oT12_4 pT12_1 pT12_2 pT12_3 pT12_4
        go_upto_region 13 with fail
        obtain ⟨T13_1, hT13_1⟩ : ∃ T, T = a ++ [32] := ⟨_, rfl⟩
        have oT13_1 : bs a ++ (⟨#[32]⟩ : ByteArray) = bs T13_1 := by show bs a ++ bs [32] = _; rw [hT13_1, bs_append]
        have pT13_1 : ¬ (9223372036854775807 < (bs a).size + 1) := by have := ya; omega
        have qT13_1 : (bs T13_1).size < 210 := by rw [hT13_1, bs_size]; simp only [List.length_append, List.length_cons, List.length_nil]; have := yal; have := yvl; have := ybl; omega
        obtain ⟨T13_2, hT13_2⟩ : ∃ T, T = T13_1 ++ b := ⟨_, rfl⟩
        have oT13_2 : bs T13_1 ++ bs b = bs T13_2 := by rw [hT13_2, bs_append]
        have pT13_2 : ¬ (9223372036854775807 < (bs T13_1).size + (bs b).size) := by have := qT13_1 ; have := yb; omega
        have qT13_2 : (bs T13_2).size < 320 := by rw [hT13_2, bs_size]; simp only [List.length_append, List.length_cons, List.length_nil]; have := yal; have := yvl; have := ybl; rw [bs_size] at qT13_1; omega
        have H13 : T13_2 = a ++ 32 :: b := by rw [hT13_2, hT13_1]; simp
        have P13 : parse T13_2 = ⟨a, [], b, []⟩ := by rw [H13]; exact P3
        have z13 : (bs T13_2).size < 20000 := by omega
        clear H13 hT13_1 hT13_2 qT13_1 qT13_2
        go_cut [9] (fun p wx => ∃ q, p = .pointer (some ⟨q, 0, none⟩) ∧ Bx wx q ⟨a, [], b, []⟩ ∧ Below w4.heap.size w4 wx)
        case first => as_aux_lemma =>
          go_region_held3 (fun wx => wx.cell? ⟨g3, 0, none⟩ = some (.string (bs a)) ∧ wx.cell? ⟨g3, 1, none⟩ = some (.string (bs v)) ∧ wx.cell? ⟨g3, 2, none⟩ = some (.string (bs b)) ∧ Below w4.heap.size w4 wx) (first
              | (exact T.out.at k1)
              | (exact T.out.at (Below.refl _ _).drew)
              | (exact T.out.at (Below.refl _ _))
              | (exact T.out.at (below_via k1 ((Below.refl _ _).alloc (Nat.le_refl _) _)))
              | (exact T.out.at ((Below.refl _ _).drew.alloc (Nat.le_refl _) _))
              | (exact T.out.at ((((k1.setCell (by exact Nat.le_refl _) _).setCell (by exact Nat.le_refl _) _).setCell (by exact Nat.le_refl _) _).setCell (by exact Nat.le_refl _) _))) (first
            | (go_at_call 15; refine (parse_any (bs T13_2) _ (HM.out.below (R3S.bel (by assumption))) z13).mono ?_; rintro e x1 ⟨rfl, b1⟩; rw [bs_list, P13]
               (first
                 | (with_reducible (have e9 := f_block b1); obtain ⟨⟨f49, f59, f69, f79⟩, g49, g59, g69, g79⟩ := four_cells e9)
                 | skip)
               have k1 : Below w4.heap.size w4 x1 := below_via (R3S.bel (by assumption)) b1
               dsimp only))
          all_goals (go_wp2_with fail; go_meet)
          all_goals (first
            | (have x := e9; exact ⟨_, rfl, ⟨cells_setCell (cells_setCell (cells_setCell (cells_setCell e9 _) _) _) _⟩, ((((k1.setCell (by exact Nat.le_refl _) _).setCell (by exact Nat.le_refl _) _).setCell (by exact Nat.le_refl _) _).setCell (by exact Nat.le_refl _) _)⟩)
            | exact ⟨_, rfl, ⟨heap_alloc_new _ _⟩, below_via k1 ((Below.refl _ _).alloc (Nat.le_refl _) _)⟩)
        case rest =>
          obtain ⟨h9, rfl, B9, hb⟩ := hcut
          obtain ⟨w5, hw5⟩ : ∃ w', w' = wc := ⟨_, rfl⟩
          subst hw5
          replace T := Lib.hid (T.out.below hb)
          replace K2 := Lib.hid (below_via K2.out hb)
          replace HM := Lib.hid (HM.out.below hb)
          replace B7 := Lib.hid (B7.out.below hb)
          replace B8 := Lib.hid (B8.out.below hb)
          replace B9 := Lib.hid B9
          clear hb z13 P13 oT13_1 oT13_2 pT13_1 pT13_2
          go_upto_region 14 with fail
          obtain ⟨T14_1, hT14_1⟩ : ∃ T, T = b ++ [44] := ⟨_, rfl⟩
          have oT14_1 : bs b ++ (⟨#[44]⟩ : ByteArray) = bs T14_1 := by show bs b ++ bs [44] = _; rw [hT14_1, bs_append]
          have pT14_1 : ¬ (9223372036854775807 < (bs b).size + 1) := by have := yb; omega
          have qT14_1 : (bs T14_1).size < 210 := by rw [hT14_1, bs_size]; simp only [List.length_append, List.length_cons, List.length_nil]; have := yal; have := yvl; have := ybl; omega
          obtain ⟨T14_2, hT14_2⟩ : ∃ T, T = T14_1 ++ a := ⟨_, rfl⟩
          have oT14_2 : bs T14_1 ++ bs a = bs T14_2 := by rw [hT14_2, bs_append]
          have pT14_2 : ¬ (9223372036854775807 < (bs T14_1).size + (bs a).size) := by have := qT14_1 ; have := ya; omega
          have qT14_2 : (bs T14_2).size < 320 := by rw [hT14_2, bs_size]; simp only [List.length_append, List.length_cons, List.length_nil]; have := yal; have := yvl; have := ybl; rw [bs_size] at qT14_1; omega
          have H14 : T14_2 = b ++ 44 :: a := by rw [hT14_2, hT14_1]; simp
          have P14 : parse T14_2 = ⟨a, [], b, []⟩ := by rw [H14]; exact P4
          have z14 : (bs T14_2).size < 20000 := by omega
          clear H14 hT14_1 hT14_2 qT14_1 qT14_2
          go_cut [10] (fun p wx => ∃ q, p = .pointer (some ⟨q, 0, none⟩) ∧ Bx wx q ⟨a, [], b, []⟩ ∧ Below w5.heap.size w5 wx)
          case first => as_aux_lemma =>
            go_region_held3 (fun wx => wx.cell? ⟨g3, 0, none⟩ = some (.string (bs a)) ∧ wx.cell? ⟨g3, 1, none⟩ = some (.string (bs v)) ∧ wx.cell? ⟨g3, 2, none⟩ = some (.string (bs b)) ∧ Below w5.heap.size w5 wx) (first
                | (exact T.out.at k1)
                | (exact T.out.at (Below.refl _ _).drew)
                | (exact T.out.at (Below.refl _ _))
                | (exact T.out.at (below_via k1 ((Below.refl _ _).alloc (Nat.le_refl _) _)))
                | (exact T.out.at ((Below.refl _ _).drew.alloc (Nat.le_refl _) _))
                | (exact T.out.at ((((k1.setCell (by exact Nat.le_refl _) _).setCell (by exact Nat.le_refl _) _).setCell (by exact Nat.le_refl _) _).setCell (by exact Nat.le_refl _) _))) (first
              | (go_at_call 15; refine (parse_any (bs T14_2) _ (HM.out.below (R3S.bel (by assumption))) z14).mono ?_; rintro e x1 ⟨rfl, b1⟩; rw [bs_list, P14]
                 (first
                   | (with_reducible (have e9 := f_block b1); obtain ⟨⟨f49, f59, f69, f79⟩, g49, g59, g69, g79⟩ := four_cells e9)
                   | skip)
                 have k1 : Below w5.heap.size w5 x1 := below_via (R3S.bel (by assumption)) b1
                 dsimp only))
            all_goals (go_wp2_with fail; go_meet)
            all_goals (first
              | (have x := e9; exact ⟨_, rfl, ⟨cells_setCell (cells_setCell (cells_setCell (cells_setCell e9 _) _) _) _⟩, ((((k1.setCell (by exact Nat.le_refl _) _).setCell (by exact Nat.le_refl _) _).setCell (by exact Nat.le_refl _) _).setCell (by exact Nat.le_refl _) _)⟩)
              | exact ⟨_, rfl, ⟨heap_alloc_new _ _⟩, below_via k1 ((Below.refl _ _).alloc (Nat.le_refl _) _)⟩)
          case rest =>
            obtain ⟨h10, rfl, B10, hb⟩ := hcut
            obtain ⟨w6, hw6⟩ : ∃ w', w' = wc := ⟨_, rfl⟩
            subst hw6
            replace T := Lib.hid (T.out.below hb)
            replace K2 := Lib.hid (below_via K2.out hb)
            replace HM := Lib.hid (HM.out.below hb)
            replace B7 := Lib.hid (B7.out.below hb)
            replace B8 := Lib.hid (B8.out.below hb)
            replace B9 := Lib.hid (B9.out.below hb)
            replace B10 := Lib.hid B10
            clear hb z14 P14 oT14_1 oT14_2 pT14_1 pT14_2
            obtain ⟨c0, c1, c2, c3⟩ := B7.out.cells
            simp only at c0 c1 c2 c3
            have SA : Hid (Sm ⟨a, v, b, []⟩ 10000) := Lib.hid ⟨by simp; omega, by simp; omega, by simp; omega, by simp⟩
            have PL := Lib.hid (key_plain ⟨a, v, b, []⟩)
            have hkl : (keyS ⟨a, v, b, []⟩).length < 2000 := by
              have h1 := words_lens (keyT ⟨a, v, b, []⟩)
              have h2 := keyT_len ⟨a, v, b, []⟩
              simp only at h2
              rw [keyS_eq, low, List.length_map]
              have := za
              have := zv
              have := zb
              simp at h2
              omega
            go_wp2_with fail
            refine (key_any ⟨a, v, b, []⟩ _ SA.out).mono ?_
            rintro e w7 ⟨rfl, hb⟩
            replace T := Lib.hid (T.out.below hb)
            replace K2 := Lib.hid (below_via K2.out hb)
            replace HM := Lib.hid (HM.out.below hb)
            replace B7 := Lib.hid (B7.out.below hb)
            replace B8 := Lib.hid (B8.out.below hb)
            replace B9 := Lib.hid (B9.out.below hb)
            replace B10 := Lib.hid (B10.out.below hb)
            clear hb c0 c1 c2 c3
            have KEQ : Hid (keyS ⟨a, v, b, []⟩ = keyS ⟨a, v, b, []⟩) := Lib.hid rfl
            generalize hK : keyS ⟨a, v, b, []⟩ = K at *
            have HK := Lib.hid hK
            clear hK KEQ
            have hKs : (bs K).size = K.length := bs_size K
            go_upto_block 4 with fail
            go_cut [] (fun wx => wx = w7)
            case first =>
              go_wp2_with fail
              go_loop [12] (fun i => ∃ k : Nat, k ≤ K.length ∧ i = .int .i64 k) (fun i => K.length - (intOf i).toNat)
              case atStart => exact ⟨0, Nat.zero_le _, rfl⟩
              case round =>
                obtain ⟨k, hk, rfl⟩ := hrel
                by_cases hlt : k < K.length
                · have i1 : (k : Int) < ((bs K).size : Int) := by omega
                  have i2 : k < (bs K).size := by omega
                  have hgb : (bs K)[k]'i2 = K[k] := rfl
                  have hpl := PL.out K[k] (List.getElem_mem hlt)
                  generalize K[k] = c at *
                  have hcb : c.toNat < 256 := c.toNat_lt
                  by_cases h65 : 65 ≤ c.toNat
                  · have j1 : (65 : Int) ≤ (c.toNat : Int) := by omega
                    have j2 : (90 : Int) < (c.toNat : Int) := by omega
                    clear hpl
                    go_wp2_with fail
                    go_round
                    case rel => exact ⟨k + 1, by omega, by go_num⟩
                    case measure => simp [intOf]; omega
                  · have j1 : (c.toNat : Int) < 65 := by omega
                    clear hpl
                    go_wp2_with fail
                    go_round
                    case rel => exact ⟨k + 1, by omega, by go_num⟩
                    case measure => simp [intOf]; omega
                · obtain rfl : k = K.length := by omega
                  go_wp2_with fail
                  go_meet
                  exact rfl
            case rest =>
              have hcut' := hcut.symm
              subst hcut'
              have e0 : bs [] = (⟨#[]⟩ : ByteArray) := rfl
              have qG := nGuard
              have rG := rGuard
              have eN1 : ∀ w, (Op.equalIn 10000 28 (.agg #[.string (bs a), .string (bs v), .string (bs b), .string ⟨#[]⟩]) (.agg #[.string (bs a), .string (bs v), .string (bs b), .string ⟨#[]⟩])).run Tryd.prog w = .ok true w := fun w => eqAtN ⟨a, v, b, []⟩ w
              have eN2 : ∀ w, (Op.equalIn 10000 28 (.agg #[.string (bs a), .string ⟨#[]⟩, .string (bs b), .string ⟨#[]⟩]) (.agg #[.string (bs a), .string ⟨#[]⟩, .string (bs b), .string ⟨#[]⟩])).run Tryd.prog w = .ok true w := fun w => eqAtN ⟨a, [], b, []⟩ w
              have eR1 : ∀ w, (Op.equalIn 10000 26 (.agg #[.string (bs a), .string (bs v), .string (bs b), .string ⟨#[]⟩]) (.agg #[.string (bs a), .string (bs v), .string (bs b), .string ⟨#[]⟩])).run Tryd.prog w = .ok true w := fun w => eqAt ⟨a, v, b, []⟩ w
              have eR2 : ∀ w, (Op.equalIn 10000 26 (.agg #[.string (bs a), .string ⟨#[]⟩, .string (bs b), .string ⟨#[]⟩]) (.agg #[.string (bs a), .string ⟨#[]⟩, .string (bs b), .string ⟨#[]⟩])).run Tryd.prog w = .ok true w := fun w => eqAt ⟨a, [], b, []⟩ w
              obtain ⟨T1, hT1⟩ : ∃ T, T = 65 :: 46 :: 32 :: v := ⟨_, rfl⟩
              obtain ⟨T2, hT2⟩ : ∃ T, T = T1 ++ [32] := ⟨_, rfl⟩
              obtain ⟨T3, hT3⟩ : ∃ T, T = T2 ++ b := ⟨_, rfl⟩
              have o1 : (⟨#[65, 46, 32]⟩ : ByteArray) ++ bs v = bs T1 := by show bs [65, 46, 32] ++ bs v = _; rw [hT1, bs_append]; rfl
              have o2 : bs T1 ++ (⟨#[32]⟩ : ByteArray) = bs T2 := by show bs T1 ++ bs [32] = _; rw [hT2, bs_append]
              have o3 : bs T2 ++ bs b = bs T3 := by rw [hT3, bs_append]
              have l1 : T1.length = v.length + 3 := by rw [hT1]; simp
              have l2 : T2.length = T1.length + 1 := by rw [hT2]; simp
              have p1 : ¬ (9223372036854775807 < 3 + (bs v).size) := by omega
              have p2 : ¬ (9223372036854775807 < (bs T1).size + 1) := by rw [bs_size]; omega
              have p3 : ¬ (9223372036854775807 < (bs T2).size + (bs b).size) := by rw [bs_size]; omega
              have HSH : Hid (shortS ⟨a, v, b, []⟩ = T3) := Lib.hid (by rw [PSH, hT3, hT2, hT1]; simp)
              have SB : Hid (Sm ⟨a, v, b, []⟩ 10000) := SA
              have HA := Lib.hid (fun (wx : World) (hb : Below w7.heap.size w7 wx) => F4.of B7.out B8.out B9.out B10.out T.out hb)
              clear hT1 hT2 hT3 l1 l2 hKs hkl PL SA T B7 B8 B9 B10
              go_upto_region 21 with fail
              as_aux_lemma =>
                go_region_held3 (fun wx => wx.cell? ⟨h7, 0, none⟩ = some (.string (bs a)) ∧ wx.cell? ⟨h7, 1, none⟩ = some (.string (bs v)) ∧ wx.cell? ⟨h7, 2, none⟩ = some (.string (bs b)) ∧ wx.cell? ⟨h7, 3, none⟩ = some (.string ⟨#[]⟩) ∧ wx.cell? ⟨h8, 0, none⟩ = some (.string (bs a)) ∧ wx.cell? ⟨h8, 1, none⟩ = some (.string (bs v)) ∧ wx.cell? ⟨h8, 2, none⟩ = some (.string (bs b)) ∧ wx.cell? ⟨h8, 3, none⟩ = some (.string ⟨#[]⟩) ∧ wx.cell? ⟨h9, 0, none⟩ = some (.string (bs a)) ∧ wx.cell? ⟨h9, 1, none⟩ = some (.string ⟨#[]⟩) ∧ wx.cell? ⟨h9, 2, none⟩ = some (.string (bs b)) ∧ wx.cell? ⟨h9, 3, none⟩ = some (.string ⟨#[]⟩) ∧ wx.cell? ⟨h10, 0, none⟩ = some (.string (bs a)) ∧ wx.cell? ⟨h10, 1, none⟩ = some (.string ⟨#[]⟩) ∧ wx.cell? ⟨h10, 2, none⟩ = some (.string (bs b)) ∧ wx.cell? ⟨h10, 3, none⟩ = some (.string ⟨#[]⟩) ∧ wx.cell? ⟨g3, 0, none⟩ = some (.string (bs a)) ∧ wx.cell? ⟨g3, 1, none⟩ = some (.string (bs v)) ∧ wx.cell? ⟨g3, 2, none⟩ = some (.string (bs b)) ∧ Below w7.heap.size w7 wx) (first
                    | (exact HA.out _ k1)
                    | (exact HA.out _ (Below.refl _ _).drew)
                    | (exact HA.out _ (Below.refl _ _))) (first
                  | (go_at_call 17; refine (fixed_any _ (HM.out.below (F4.bel (by assumption)))).mono ?_; rintro e x1 ⟨rfl, b1⟩
                     have k1 : Below w7.heap.size w7 x1 := below_via (F4.bel (by assumption)) b1
                     clear b1; dsimp only)
                  | (go_at_call 23; refine (key_any ⟨a, v, b, []⟩ _ SB.out).mono ?_; rintro e x1 ⟨rfl, b1⟩; rw [HK.out]
                     have k1 : Below w7.heap.size w7 x1 := below_via (F4.bel (by assumption)) b1
                     clear b1; dsimp only)
                  | (go_at_call 21; refine (short_any ⟨a, v, b, []⟩ _ SB.out).mono ?_; rintro e x1 ⟨rfl, b1⟩; rw [HSH.out]
                     have k1 : Below w7.heap.size w7 x1 := below_via (F4.bel (by assumption)) b1
                     clear b1; dsimp only)
                  | (go_at_call 14; (first
                       | (have y := k1; refine (ref_ab a b _).mono ?_; rintro e x1 ⟨rfl, b1⟩)
                       | (refine (ref_av a v b _).mono ?_; rintro e x1 ⟨rfl, b1⟩))
                     have k1 : Below w7.heap.size w7 x1 := below_via (F4.bel (by assumption)) b1
                     clear b1; dsimp only))
                all_goals (go_wp2_with fail; go_ret; exact ⟨rfl, hg ▸ below_via K2.out k1⟩)
end Go.Proofs.YtmnekomoiffebaaDoor
