/- The walk of stetlaw16.NameKeys. -/
import Derived.Test.YtmnekomoiffebaaDoorRows
import Derived.Test.YtmnekomoiffebaaDoorNmFx
import Derived.Test.YtmnekomoiffebaaDoorNmMx
import Derived.Test.YtmnekomoiffebaaDoorNmL1
import Derived.Test.YtmnekomoiffebaaDoorNmL2
import Derived.Test.YtmnekomoiffebaaDoorNmL3
namespace Go.Proofs.YtmnekomoiffebaaDoor
open Go.RowKit Go.Lib Go.Sort Tx

set_option maxHeartbeats 2000000 in
theorem tSmall_any (T : Bs) (w : World) (hT : T.length < 100000) :
    Calls Tryd.prog 29 #[.string (bs T)] w fun e w' => e = .returned (vs (low T)) ∧ Below w.heap.size w w' := by
  have hTs : (bs T).size = T.length := bs_size T
  go_enter Tryd.func29, Tryd.ntmps29
  go_wp2_with fail
  go_loopw [3, 4] (fun t i wr => ∃ k : Nat, k ≤ T.length ∧ i = .int .i64 k ∧ t = .string (bs ((T.map lowr).take k)) ∧ Below w.heap.size w wr) (fun _ i _ => T.length - (intOf i).toNat)
  case atStart => exact ⟨0, Nat.zero_le _, rfl, rfl, Below.refl _ _⟩
  case round =>
    obtain ⟨k, hk, rfl, rfl, hbel⟩ := hrel
    have hle := hbel.size
    have hts : (bs ((T.map lowr).take k)).size < 100000 := by rw [bs_size]; simp; omega
    by_cases hlt : k < T.length
    · have hx : (k : Int) < (T.length : Int) := by omega
      have hltb : k < (bs T).size := by omega
      have hxb : (k : Int) < ((bs T).size : Int) := by omega
      have hgb : (bs T)[k]'hltb = T[k] := rfl
      have HS := Lib.hid (map_step lowr T k hlt)
      have HN := Lib.hid (lowr_no T[k])
      have HY := Lib.hid (lowr_yes T[k])
      have hcb : T[k].toNat < 256 := T[k].toNat_lt
      have hob : ∀ z, z = ((lowr T[k]).toNat : Int) → ∀ w : World, _ := fun z hz w => one_byte w _ rfl z _ hz
      have hzs : (bs [lowr T[k]]).size = 1 := rfl
      clear hTs
      generalize hx0 : T[k] = x at *
      clear hx0
      by_cases hin : 65 ≤ x.toNat ∧ x.toNat ≤ 90
      · have HX := Lib.hid (HY.out hin.1 hin.2)
        have i1 : (65 : Int) ≤ (x.toNat : Int) := by omega
        have i2 : (x.toNat : Int) ≤ 90 := by omega
        have hob2 := hob ((x.toNat : Int) + 32) (by rw [HX.out]; omega)
        clear hin hob
        go_wp2_with fail
        go_roundw
        case rel => exact ⟨k + 1, by omega, by go_num, by rw [HS.out, bs_append], hbel.alloc hle _⟩
        case measure => simp [intOf]; omega
      · have HX := Lib.hid (HN.out hin)
        have hob2 := hob (x.toNat : Int) (by rw [HX.out])
        by_cases hin1 : 65 ≤ x.toNat
        · have i1 : (65 : Int) ≤ (x.toNat : Int) := by omega
          have i2 : (90 : Int) < (x.toNat : Int) := by omega
          clear hin hob
          go_wp2_with fail
          go_roundw
          case rel => exact ⟨k + 1, by omega, by go_num, by rw [HS.out, bs_append], hbel.alloc hle _⟩
          case measure => simp [intOf]; omega
        · have i1 : (x.toNat : Int) < 65 := by omega
          clear hin hob
          go_wp2_with fail
          go_roundw
          case rel => exact ⟨k + 1, by omega, by go_num, by rw [HS.out, bs_append], hbel.alloc hle _⟩
          case measure => simp [intOf]; omega
    · obtain rfl : k = T.length := by omega
      have HT : Hid ((T.map lowr).take T.length = low T) := by show _ = _; rw [List.take_of_length_le (by simp)]; rfl
      go_wp2_with fail
      go_ret
      exact ⟨by rw [HT.out]; rfl, hbel⟩

theorem PS.alloc {w : World} {g : Nat} {a b c d : Value} {wx : World} (h : PS w g a b c d wx) (o : Obj) : PS w g a b c d (wx.alloc o) := h.below ((Below.refl _ _).alloc (Nat.le_refl _) o)
theorem PS.of {w : World} {g : Nat} {a b c d : Value} {wx : World} (h1 : w.cell? ⟨g, 0, none⟩ = some a) (h2 : w.cell? ⟨g, 1, none⟩ = some b) (h3 : w.cell? ⟨g, 2, none⟩ = some c) (h4 : w.cell? ⟨g, 3, none⟩ = some d) (hl : g < w.heap.size) (hb : Below w.heap.size w wx) : PS w g a b c d wx := PS.below ⟨h1, h2, h3, h4, hl, Below.refl _ _⟩ hb
theorem lit_block {w1 w2 : World} {c : Array Value} {t : TypeId} (hb : Below (w1.alloc (.cells c t)).heap.size (w1.alloc (.cells c t)) w2) : w2.heap[w1.heap.size]? = some (.cells c t (0, 0)) :=
  (hb.block _ (by rw [World.size_alloc]; omega)).trans (heap_alloc_new _ _)
theorem keep_block {w1 w2 : World} {q : Nat} {o : Obj} (h : w1.heap[q]? = some o) (hb : Below w1.heap.size w1 w2) : w2.heap[q]? = some o := (hb.block _ (lt_of_block h)).trans h
theorem first_new {w w2 : World} {o : Obj} (_hb : Below (w.alloc o).drew.heap.size (w.alloc o).drew w2) : w.heap.size ≤ w.heap.size := Nat.le_refl _
theorem first_block {w1 w2 : World} {c : Array Value} {t : TypeId} (hb : Below (w1.alloc (.cells c t)).drew.heap.size (w1.alloc (.cells c t)).drew w2) : w2.heap[w1.heap.size]? = some (.cells c t (0, 0)) :=
  (hb.block _ (by show w1.heap.size < (w1.alloc _).heap.size; rw [World.size_alloc]; exact Nat.lt_succ_self _)).trans (heap_alloc_new w1 _)
theorem lit_new {w1 w2 : World} {o : Obj} (_hb : Below (w1.alloc o).heap.size (w1.alloc o) w2) : w1.heap.size ≤ w1.heap.size := Nat.le_refl _
/-- Three persons' boxes, in each world behind one. -/
abbrev P3 (w : World) (g : Nat) (p : P4) (g' : Nat) (p' : P4) (g'' : Nat) (p'' : P4) (wx : World) : Prop :=
  wx.cell? ⟨g, 0, none⟩ = some (.string (bs p.first)) ∧ wx.cell? ⟨g, 1, none⟩ = some (.string (bs p.von)) ∧ wx.cell? ⟨g, 2, none⟩ = some (.string (bs p.last)) ∧ wx.cell? ⟨g, 3, none⟩ = some (.string (bs p.jr)) ∧
  wx.cell? ⟨g', 0, none⟩ = some (.string (bs p'.first)) ∧ wx.cell? ⟨g', 1, none⟩ = some (.string (bs p'.von)) ∧ wx.cell? ⟨g', 2, none⟩ = some (.string (bs p'.last)) ∧ wx.cell? ⟨g', 3, none⟩ = some (.string (bs p'.jr)) ∧
  wx.cell? ⟨g'', 0, none⟩ = some (.string (bs p''.first)) ∧ wx.cell? ⟨g'', 1, none⟩ = some (.string (bs p''.von)) ∧ wx.cell? ⟨g'', 2, none⟩ = some (.string (bs p''.last)) ∧ wx.cell? ⟨g'', 3, none⟩ = some (.string (bs p''.jr)) ∧ Below w.heap.size w wx
theorem P3.of {w : World} {g : Nat} {p : P4} {g' : Nat} {p' : P4} {g'' : Nat} {p'' : P4} (h : Bx w g p) (h' : Bx w g' p') (h'' : Bx w g'' p'') (wx : World) (hb : Below w.heap.size w wx) : P3 w g p g' p' g'' p'' wx := by
  obtain ⟨a0, a1, a2, a3⟩ := (h.below hb).cells
  obtain ⟨b0, b1, b2, b3⟩ := (h'.below hb).cells
  obtain ⟨c0, c1, c2, c3⟩ := (h''.below hb).cells
  exact ⟨a0, a1, a2, a3, b0, b1, b2, b3, c0, c1, c2, c3, hb⟩
theorem P3.via {w : World} {g : Nat} {p : P4} {g' : Nat} {p' : P4} {g'' : Nat} {p'' : P4} {wx wy : World} (h : P3 w g p g' p' g'' p'' wx) (hb : Below wx.heap.size wx wy) : Below w.heap.size w wy := by
  obtain ⟨_, _, _, _, _, _, _, _, _, _, _, _, h⟩ := h
  exact below_via h hb
theorem bel13 {a b c d e f g h i j k l m : Prop} (x : a ∧ b ∧ c ∧ d ∧ e ∧ f ∧ g ∧ h ∧ i ∧ j ∧ k ∧ l ∧ m) : m := x.2.2.2.2.2.2.2.2.2.2.2.2
set_option maxHeartbeats 8000000 in
theorem nameKeys_any (p : P4) (w : World) (hm : MaxL w) (hb : Big p) :
    Calls Tryd.prog 8 #[pv p] w fun e w' => e = .returned (.bool true) ∧ Below w.heap.size w w' := by
  obtain ⟨g1, g2, g3, g4⟩ := hb
  have HM := Lib.hid hm
  have hcut := Lib.hid (cut_any p)
  have SM := Lib.hid (cutP_sm p)
  have GG := Lib.hid (And.intro g1 (And.intro g2 (And.intro g3 g4)))
  clear hm g1 g2 g3 g4
  obtain ⟨f, v, n, j⟩ := p
  go_enter Tryd.func8, Tryd.ntmps8
  go_wp2_with fail
  refine (hcut.out _ GG.out.1 GG.out.2.1 GG.out.2.2.1 GG.out.2.2.2).mono ?_
  generalize cutP ⟨f, v, n, j⟩ = q at *
  rintro e w1 ⟨rfl, b1⟩
  have xP := (Bx.new w ⟨f, v, n, j⟩).below b1
  obtain ⟨⟨c0, c1, c2, c3⟩, z0, z1, z2, z3⟩ := four_cells xP.blk
  have lP := xP.lt
  obtain ⟨f', v', n', j'⟩ := q
  have K1 : Below w.heap.size w w1 := lit_only b1
  have xQ : Bx ((((w1.setCell ⟨w.heap.size, 0, none⟩ (.string (bs f'))).setCell ⟨w.heap.size, 1, none⟩ (.string (bs v'))).setCell ⟨w.heap.size, 2, none⟩ (.string (bs n'))).setCell ⟨w.heap.size, 3, none⟩ (.string (bs j'))) w.heap.size ⟨f', v', n', j'⟩ :=
    ⟨cells_setCell (cells_setCell (cells_setCell (cells_setCell xP.blk _) _) _) _⟩
  have K2 : Below w.heap.size w ((((w1.setCell ⟨w.heap.size, 0, none⟩ (.string (bs f'))).setCell ⟨w.heap.size, 1, none⟩ (.string (bs v'))).setCell ⟨w.heap.size, 2, none⟩ (.string (bs n'))).setCell ⟨w.heap.size, 3, none⟩ (.string (bs j'))) :=
    (((K1.setCell (by exact Nat.le_refl _) _).setCell (by exact Nat.le_refl _) _).setCell (by exact Nat.le_refl _) _).setCell (by exact Nat.le_refl _) _
  have SQ := Lib.hid (sm_more SM.out)
  have sf := SM.out.first
  have sv := SM.out.von
  have sn := SM.out.last
  have sj := SM.out.jr
  simp only at sf sv sn sj
  clear GG hcut K1 b1 SM
  go_upto_region 2 with fail
  clear c0 c1 c2 c3 z0 z1 z2 z3 xP lP
  generalize (((w1.setCell ⟨w.heap.size, 0, none⟩ (.string (bs f'))).setCell ⟨w.heap.size, 1, none⟩ (.string (bs v'))).setCell ⟨w.heap.size, 2, none⟩ (.string (bs n'))).setCell ⟨w.heap.size, 3, none⟩ (.string (bs j')) = w2 at *
  generalize hg : w.heap.size = g at *
  obtain ⟨c0, c1, c2, c3⟩ := xQ.cells
  go_wp2_with fail
  refine (key_any ⟨f', v', n', j'⟩ _ SQ.out).mono ?_
  rintro e w3 ⟨rfl, b3⟩
  have HK1 := Lib.hid (key_low ⟨f', v', n', j'⟩)
  have HK2 := Lib.hid (key_wide ⟨f', v', n', j'⟩)
  have HK3 := Lib.hid (low_key ⟨f', v', n', j'⟩)
  have HK4 := Lib.hid (key_count ⟨f', v', n', j'⟩)
  have hkl : (keyS ⟨f', v', n', j'⟩).length < 2000 := by
    have h1 := words_lens (keyT ⟨f', v', n', j'⟩)
    have h2 := keyT_len ⟨f', v', n', j'⟩
    simp only at h2
    rw [keyS_eq, low, List.length_map]
    omega
  generalize keyS ⟨f', v', n', j'⟩ = K at *
  replace xQ := xQ.below b3
  have K3 := Lib.hid (hg ▸ below_via (hg.symm ▸ K2) b3 : Below g w w3)
  have XQ := Lib.hid xQ
  clear c0 c1 c2 c3 K2 b3
  obtain ⟨c0, c1, c2, c3⟩ := xQ.cells
  have hQ := xQ.lt
  simp only at c0 c1 c2 c3
  clear xQ
  go_upto_region 3 with fail
  go_cut [4] (fun p wx => ∃ g4, p = .pointer (some ⟨g4, 0, none⟩) ∧ Bx wx g4 ⟨low f', low v', low n', low j'⟩ ∧ Below w3.heap.size w3 wx)
  case first =>
    clear HK1 HK2 HK3 HK4 SQ K3 XQ HM hkl
    go_region_held3 (fun wx => wx.cell? ⟨g, 0, none⟩ = some (.string (bs f')) ∧ wx.cell? ⟨g, 1, none⟩ = some (.string (bs v')) ∧ wx.cell? ⟨g, 2, none⟩ = some (.string (bs n')) ∧ wx.cell? ⟨g, 3, none⟩ = some (.string (bs j')) ∧ g < w3.heap.size ∧ Below w3.heap.size w3 wx) (first
        | (exact PS.below (by assumption) (by assumption))
        | (exact ⟨c0, c1, c2, c3, hQ, (Below.refl _ _).drew⟩)
        | (exact PS.of c0 c1 c2 c3 hQ (below_via k1 ((Below.refl _ _).alloc (Nat.le_refl _) _)))
        | (exact PS.of c0 c1 c2 c3 hQ ((Below.refl _ _).drew.alloc (Nat.le_refl _) _))
        | (exact PS.of c0 c1 c2 c3 hQ ((((k1.setCell (by exact q9) _).setCell (by exact q9) _).setCell (by exact q9) _).setCell (by exact q9) _))) (first
      | (go_at_call 29; refine (tSmall_any _ _ (by omega)).mono ?_; rintro e x1 ⟨rfl, b1⟩
         (first
           | (with_reducible (have q9 := first_new b1; have e9 := first_block b1); obtain ⟨⟨f49, f59, f69, f79⟩, g49, g59, g69, g79⟩ := four_cells e9)
           | (with_reducible (have q9 := Nat.le_trans k1.size (lit_new b1); have e9 := lit_block b1); obtain ⟨⟨f49, f59, f69, f79⟩, g49, g59, g69, g79⟩ := four_cells e9)
           | (with_reducible (have e9 := keep_block e9 b1); obtain ⟨⟨f49, f59, f69, f79⟩, g49, g59, g69, g79⟩ := four_cells e9)
           | skip)
         have k1 : Below w3.heap.size w3 x1 := PS.via (by assumption) b1
         have b1' := b1; clear b1; dsimp only))
    all_goals (go_wp2_with fail; go_meet)
    all_goals (first
      | (have x := e9; exact ⟨_, rfl, ⟨cells_setCell (cells_setCell (cells_setCell (cells_setCell e9 _) _) _) _⟩, ((((k1.setCell (by exact q9) _).setCell (by exact q9) _).setCell (by exact q9) _).setCell (by exact q9) _)⟩)
      | exact ⟨_, rfl, ⟨heap_alloc_new _ _⟩, below_via k1 ((Below.refl _ _).alloc (Nat.le_refl _) _)⟩)
  case rest =>
    obtain ⟨g4, rfl, xL, b4⟩ := hcut
    have xQ := XQ.out.below b4
    have K4 : Below g w wc := hg ▸ below_via (hg.symm ▸ K3.out) b4
    replace HM := Lib.hid (HM.out.below (by rw [hg]; exact K4))
    have zf : (bs f').size < 100 := by rw [bs_size]; omega
    have zv : (bs v').size < 100 := by rw [bs_size]; omega
    have zn : (bs n').size < 100 := by rw [bs_size]; omega
    have zj : (bs j').size < 100 := by rw [bs_size]; omega
    have q1 : (⟨#[32]⟩ : ByteArray).size = 1 := rfl
    have q2 : (⟨#[9]⟩ : ByteArray).size = 1 := rfl
    have q3 : (⟨#[10]⟩ : ByteArray).size = 1 := rfl
    have q4 : (⟨#[32, 32]⟩ : ByteArray).size = 2 := rfl
    have e1 : (⟨#[32]⟩ : ByteArray) ++ bs f' ++ (⟨#[9]⟩ : ByteArray) = bs (32 :: (f' ++ [9])) := by rw [show (⟨#[32]⟩ : ByteArray) = bs [32] from rfl, show (⟨#[9]⟩ : ByteArray) = bs [9] from rfl, bs_append, bs_append]; rfl
    have e2 : (⟨#[10]⟩ : ByteArray) ++ bs v' ++ (⟨#[32]⟩ : ByteArray) = bs (10 :: (v' ++ [32])) := by rw [show (⟨#[32]⟩ : ByteArray) = bs [32] from rfl, show (⟨#[10]⟩ : ByteArray) = bs [10] from rfl, bs_append, bs_append]; rfl
    have e3 : (⟨#[32, 32]⟩ : ByteArray) ++ bs n' = bs (32 :: 32 :: n') := by rw [show (⟨#[32, 32]⟩ : ByteArray) = bs [32, 32] from rfl, bs_append]; rfl
    have e4 : bs j' ++ (⟨#[32]⟩ : ByteArray) = bs (j' ++ [32]) := by rw [show (⟨#[32]⟩ : ByteArray) = bs [32] from rfl, bs_append]
    have s1 : (bs f').size + (⟨#[32]⟩ : ByteArray).size ≤ 9223372036854775807 := by omega
    have s2 : (bs f' ++ (⟨#[32]⟩ : ByteArray)).size + (bs v').size ≤ 9223372036854775807 := by simp only [ByteArray.size_append]; omega
    have s3 : (bs f' ++ (⟨#[32]⟩ : ByteArray) ++ bs v').size + (⟨#[32]⟩ : ByteArray).size ≤ 9223372036854775807 := by simp only [ByteArray.size_append]; omega
    have s4 : (bs f' ++ (⟨#[32]⟩ : ByteArray) ++ bs v' ++ (⟨#[32]⟩ : ByteArray)).size + (bs n').size ≤ 9223372036854775807 := by simp only [ByteArray.size_append]; omega
    have s5 : (bs f' ++ (⟨#[32]⟩ : ByteArray) ++ bs v' ++ (⟨#[32]⟩ : ByteArray) ++ bs n').size + (⟨#[32]⟩ : ByteArray).size ≤ 9223372036854775807 := by simp only [ByteArray.size_append]; omega
    have s6 : (bs f' ++ (⟨#[32]⟩ : ByteArray) ++ bs v' ++ (⟨#[32]⟩ : ByteArray) ++ bs n' ++ (⟨#[32]⟩ : ByteArray)).size + (bs j').size ≤ 9223372036854775807 := by simp only [ByteArray.size_append]; omega
    have t1 : (⟨#[32]⟩ : ByteArray).size + (bs f').size ≤ 9223372036854775807 := by omega
    have t2 : ((⟨#[32]⟩ : ByteArray) ++ bs f').size + (⟨#[9]⟩ : ByteArray).size ≤ 9223372036854775807 := by simp only [ByteArray.size_append]; omega
    have t3 : (⟨#[10]⟩ : ByteArray).size + (bs v').size ≤ 9223372036854775807 := by omega
    have t4 : ((⟨#[10]⟩ : ByteArray) ++ bs v').size + (⟨#[32]⟩ : ByteArray).size ≤ 9223372036854775807 := by simp only [ByteArray.size_append]; omega
    have t5 : (⟨#[32, 32]⟩ : ByteArray).size + (bs n').size ≤ 9223372036854775807 := by omega
    have t6 : (bs j').size + (⟨#[32]⟩ : ByteArray).size ≤ 9223372036854775807 := by omega
    clear c0 c1 c2 c3 hQ
    obtain ⟨c0, c1, c2, c3⟩ := xQ.cells
    simp only at c0 c1 c2 c3
    go_upto_region 5 with fail
    clear s1 s2 s3 s4 s5 s6 t1 t2 t3 t4 t5 t6 e1 e2 e3 e4 q1 q2 q3 q4
    clear c0 c1 c2 c3
    have xW := Bx.new wc ⟨32 :: (f' ++ [9]), 10 :: (v' ++ [32]), 32 :: 32 :: n', j' ++ [32]⟩
    have hbw : Below wc.heap.size wc (wc.alloc (.cells #[.string (bs (32 :: (f' ++ [9]))), .string (bs (10 :: (v' ++ [32]))), .string (bs (32 :: 32 :: n')), .string (bs (j' ++ [32]))] 28)) := (Below.refl _ _).alloc (Nat.le_refl _) _
    have xQ' := xQ.below hbw
    have xL' := xL.below hbw
    have K5 := Lib.hid (below_via (hg.symm ▸ K4 : Below w.heap.size w wc) hbw)
    have HM5 := Lib.hid (HM.out.below hbw)
    have SL := Lib.hid (show Sm ⟨low f', low v', low n', low j'⟩ 10000 from ⟨by simp [low]; omega, by simp [low]; omega, by simp [low]; omega, by simp [low]; omega⟩)
    have SW := Lib.hid (show Sm ⟨32 :: (f' ++ [9]), 10 :: (v' ++ [32]), 32 :: 32 :: n', j' ++ [32]⟩ 10000 from ⟨by simp; omega, by simp; omega, by simp; omega, by simp; omega⟩)
    have HA := Lib.hid (fun wx hb => P3.of xQ' xL' xW wx hb)
    obtain ⟨T1, hT1⟩ : ∃ T, T = f' ++ [32] := ⟨_, rfl⟩
    obtain ⟨T2, hT2⟩ : ∃ T, T = T1 ++ v' := ⟨_, rfl⟩
    obtain ⟨T3, hT3⟩ : ∃ T, T = T2 ++ [32] := ⟨_, rfl⟩
    obtain ⟨T4, hT4⟩ : ∃ T, T = T3 ++ n' := ⟨_, rfl⟩
    obtain ⟨T5, hT5⟩ : ∃ T, T = T4 ++ [32] := ⟨_, rfl⟩
    obtain ⟨T6, hT6⟩ : ∃ T, T = T5 ++ j' := ⟨_, rfl⟩
    have l1 : T1.length = f'.length + 1 := by rw [hT1]; simp
    have l2 : T2.length = T1.length + v'.length := by rw [hT2]; simp
    have l3 : T3.length = T2.length + 1 := by rw [hT3]; simp
    have l4 : T4.length = T3.length + n'.length := by rw [hT4]; simp
    have l5 : T5.length = T4.length + 1 := by rw [hT5]; simp
    have l6 : T6.length = T5.length + j'.length := by rw [hT6]; simp
    have o1 : bs f' ++ (⟨#[32]⟩ : ByteArray) = bs T1 := by show bs f' ++ bs [32] = _; rw [hT1, bs_append]
    have o2 : bs T1 ++ bs v' = bs T2 := by rw [hT2, bs_append]
    have o3 : bs T2 ++ (⟨#[32]⟩ : ByteArray) = bs T3 := by show bs T2 ++ bs [32] = _; rw [hT3, bs_append]
    have o4 : bs T3 ++ bs n' = bs T4 := by rw [hT4, bs_append]
    have o5 : bs T4 ++ (⟨#[32]⟩ : ByteArray) = bs T5 := by show bs T4 ++ bs [32] = _; rw [hT5, bs_append]
    have o6 : bs T5 ++ bs j' = bs T6 := by rw [hT6, bs_append]
    have p1 : ¬ (9223372036854775807 < (bs f').size + 1) := by rw [bs_size]; omega
    have p2 : ¬ (9223372036854775807 < (bs T1).size + (bs v').size) := by rw [bs_size, bs_size]; omega
    have p3 : ¬ (9223372036854775807 < (bs T2).size + 1) := by rw [bs_size]; omega
    have p4 : ¬ (9223372036854775807 < (bs T3).size + (bs n').size) := by rw [bs_size, bs_size]; omega
    have p5 : ¬ (9223372036854775807 < (bs T4).size + 1) := by rw [bs_size]; omega
    have p6 : ¬ (9223372036854775807 < (bs T5).size + (bs j').size) := by rw [bs_size, bs_size]; omega
    have hcn : ((words K).length : Int) = ((words T6).length : Int) := by
      have : (words K).length = (words (f' ++ 32 :: (v' ++ 32 :: (n' ++ 32 :: j')))).length := HK4.out
      rw [this, hT6, hT5, hT4, hT3, hT2, hT1]
      simp
    have zK : (bs K).size < 100000 := by rw [bs_size]; omega
    have zA : (bs T6).size < 100000 := by rw [bs_size]; omega
    clear hT1 hT2 hT3 hT4 hT5 hT6 l1 l2 l3 l4 l5 l6 HK4 HM hbw xQ' xL' xQ xL xW b4 XQ K4 K3 sf sv sn sj zf zv zn zj SQ
    generalize wc.alloc (.cells #[.string (bs (32 :: (f' ++ [9]))), .string (bs (10 :: (v' ++ [32]))), .string (bs (32 :: 32 :: n')), .string (bs (j' ++ [32]))] 28) = w5 at *
    generalize wc.heap.size = g5 at *
    obtain ⟨W1, hW1⟩ : ∃ T, T = 32 :: (f' ++ [9]) := ⟨_, rfl⟩
    obtain ⟨W2, hW2⟩ : ∃ T, T = 10 :: (v' ++ [32]) := ⟨_, rfl⟩
    obtain ⟨W3, hW3⟩ : ∃ T, T = 32 :: 32 :: n' := ⟨_, rfl⟩
    obtain ⟨W4, hW4⟩ : ∃ T, T = j' ++ [32] := ⟨_, rfl⟩
    rw [← hW1, ← hW2, ← hW3, ← hW4] at SW HA HK2
    clear hW1 hW2 hW3 hW4
    go_region_held3 (fun wx => wx.cell? ⟨g, 0, none⟩ = some (.string (bs f')) ∧ wx.cell? ⟨g, 1, none⟩ = some (.string (bs v')) ∧ wx.cell? ⟨g, 2, none⟩ = some (.string (bs n')) ∧ wx.cell? ⟨g, 3, none⟩ = some (.string (bs j')) ∧ wx.cell? ⟨g4, 0, none⟩ = some (.string (bs (low f'))) ∧ wx.cell? ⟨g4, 1, none⟩ = some (.string (bs (low v'))) ∧ wx.cell? ⟨g4, 2, none⟩ = some (.string (bs (low n'))) ∧ wx.cell? ⟨g4, 3, none⟩ = some (.string (bs (low j'))) ∧ wx.cell? ⟨g5, 0, none⟩ = some (.string (bs W1)) ∧ wx.cell? ⟨g5, 1, none⟩ = some (.string (bs W2)) ∧ wx.cell? ⟨g5, 2, none⟩ = some (.string (bs W3)) ∧ wx.cell? ⟨g5, 3, none⟩ = some (.string (bs W4)) ∧ Below w5.heap.size w5 wx) (first
        | (exact HA.out _ k1)
        | (exact HA.out _ (Below.refl _ _).drew)
        | (exact HA.out _ (Below.refl _ _))) (first
      | (go_at_call 17; refine (fixed_any _ (HM5.out.below (bel13 (by assumption)))).mono ?_; rintro e x1 ⟨rfl, b1⟩
         have k1 : Below w5.heap.size w5 x1 := below_via (bel13 (by assumption)) b1
         clear b1; dsimp only)
      | (go_at_call 10; refine (words_any (bs _) _ (by assumption)).mono ?_
         rintro e x1 ⟨v1, rfl, r1, b1⟩; rw [bs_list] at r1; obtain ⟨A1, e1, rfl, r1⟩ := r1.shape; clear r1
         have k1 : Below w5.heap.size w5 x1 := below_via (bel13 (by assumption)) b1
         clear b1; dsimp only)
      | (go_at_call 29; refine (tSmall_any K _ (by omega)).mono ?_; rintro e x1 ⟨rfl, b1⟩; rw [HK3.out]
         have k1 : Below w5.heap.size w5 x1 := below_via (bel13 (by assumption)) b1
         clear b1; dsimp only)
      | (go_at_call 23; (first
           | (have y := k1; refine (key_any ⟨W1, W2, W3, W4⟩ _ SW.out).mono ?_; rintro e x1 ⟨rfl, b1⟩; rw [HK2.out])
           | (refine (key_any ⟨low f', low v', low n', low j'⟩ _ SL.out).mono ?_; rintro e x1 ⟨rfl, b1⟩; rw [HK1.out]))
         have k1 : Below w5.heap.size w5 x1 := below_via (bel13 (by assumption)) b1
         clear b1; dsimp only))
    all_goals (go_wp2_with fail; go_ret; exact ⟨rfl, below_via K5.out k1⟩)
end Go.Proofs.YtmnekomoiffebaaDoor
