/- stetlaw20.fixed: the calls whose answers the document fixes. -/
import Derived.Test.YtiogmegdkfnkkaaGreatDoorQ11
import Derived.Test.YtiogmegdkfnkkaaGreatDoorQ7
import Derived.Test.YtiogmegdkfnkkaaGreatDoorQ5
import Derived.Test.YtiogmegdkfnkkaaGreatDoorQ6
namespace Go.Proofs.YtiogmegdkfnkkaaGreatDoor
open Go.RowKit Tx

theorem put_1 (x : Wr.Bs) (h : x.length < 10) : Wr.put x = UInt8.ofNat (48 + x.length) :: 58 :: (x ++ [44]) := by
  unfold Wr.put
  rw [Lib.decDigits, dif_pos h]
  rfl
theorem put_2 (x : Wr.Bs) (h0 : 10 ≤ x.length) (h : x.length < 100) : Wr.put x = UInt8.ofNat (48 + x.length / 10) :: UInt8.ofNat (48 + x.length % 10) :: 58 :: (x ++ [44]) := by
  unfold Wr.put
  rw [Lib.decDigits, dif_neg (by omega), Lib.decDigits, dif_pos (by omega)]
  rfl
def xR : Rc.Rec := ([114], [([97], false, []), ([98], true, [116])], [([99], [117])])
def sR : Rc.Rec := ([115], [], [])
def mF : List Wr.F := [([98], [116]), ([99], [117])]
def B1 : Bs := [53, 58, 115, 116, 101, 116, 49, 44, 51, 54, 58, 49, 58, 114, 44, 49, 55, 58, 49, 58, 97, 44, 49, 58, 45, 44, 49, 58, 98, 44, 50, 58, 43, 116, 44, 44, 56, 58, 49, 58, 99, 44, 49, 58, 117, 44, 44, 44]
theorem right1 : Rc.rightR [xR] = true := by decide
theorem right2 : Rc.rightR [xR, xR] = false := by decide
theorem right0 : Rc.rightR [] = true := by decide
theorem bytes0 : Rc.bytes [] = [53, 58, 115, 116, 101, 116, 49, 44] := by
  have : Rc.bytes [] = Wr.put Rc.stet1 := by simp [Rc.bytes]
  rw [this, put_1 _ (by decide)]
  rfl
theorem reads1 : Rc.readsT xR.2.1 = [49, 58, 97, 44, 49, 58, 45, 44, 49, 58, 98, 44, 50, 58, 43, 116, 44] := by
  show (Wr.put [97] ++ Wr.put [45]) ++ ((Wr.put [98] ++ Wr.put [43, 116]) ++ []) = _
  rw [put_1 [97] (by decide), put_1 [45] (by decide), put_1 [98] (by decide), put_1 [43, 116] (by decide)]
  decide
theorem filesT1 : Wr.files xR.2.2 = [49, 58, 99, 44, 49, 58, 117, 44] := by
  show (Wr.put [99] ++ Wr.put [117]) ++ [] = _
  rw [put_1 [99] (by decide), put_1 [117] (by decide)]
  decide
theorem text1 : Rc.text xR = [49, 58, 114, 44, 49, 55, 58, 49, 58, 97, 44, 49, 58, 45, 44, 49, 58, 98, 44, 50, 58, 43, 116, 44, 44, 56, 58, 49, 58, 99, 44, 49, 58, 117, 44, 44] := by
  unfold Rc.text
  rw [reads1, filesT1, put_1 xR.1 (by decide), put_2 _ (by decide) (by decide), put_1 _ (by decide)]
  decide
theorem bytes1 : Rc.bytes [xR] = B1 := by
  have : Rc.bytes [xR] = Wr.put Rc.stet1 ++ Wr.put (Rc.text xR) := by simp [Rc.bytes]
  rw [this, text1, put_1 Rc.stet1 (by decide), put_2 _ (by decide) (by decide)]
  decide
theorem enc1 : encV [xR] = .tuple #[.string (bs B1), .int .i64 0] := by rw [encV_yes right1, bytes1]
theorem enc0 : encV [] = .tuple #[.string (bs [53, 58, 115, 116, 101, 116, 49, 44]), .int .i64 0] := by rw [encV_yes right0, bytes0]
theorem enc2 : encV [xR, xR] = .tuple #[.string ⟨#[]⟩, .int .i64 5] := encV_no right2
theorem dec1 : decL B1 = [xR] ∧ decE B1 = 0 := by
  have : Rc.dec B1 = .ok [xR] := by rw [← bytes1]; exact Rc.dec_bytes right1
  unfold decL decE
  rw [this]
  exact ⟨rfl, rfl⟩
theorem dec0 : decE [] = 5 := by
  unfold decE
  match h : Rc.dec [] with
  | .error e => rfl
  | .ok l =>
    have := (Rc.dec_inv h).2
    have h2 : (Rc.bytes l).length = 0 := by rw [this]; rfl
    unfold Rc.bytes at h2
    rw [List.length_append, put_1 Rc.stet1 (by decide)] at h2
    simp at h2
theorem find1 : Rc.find [xR] [114] = some xR := by kernel_rfl
theorem find2 : Rc.find [xR] [115] = none := by decide
theorem put1 : Rc.putR [xR] sR = [xR, sR] := by kernel_rfl
theorem put2 : (Rc.putR [xR, sR] xR).length = 2 := by decide
theorem fresh1 : Rc.fresh xR mF = true := by decide
theorem fresh2 : Rc.fresh xR (mF.drop 1) = false := by decide
theorem fresh3 : Rc.fresh xR (mF.take 1) = false := by decide
theorem look1 : Rc.look mF [[97], [98], [97]] = xR.2.1 := by decide
theorem up1 : Up mF := by
  unfold Up mF
  decide
theorem rec1 : RecOk xR := by
  refine ⟨by decide, ?_, ?_⟩
  · intro r hr; simp [xR] at hr; rcases hr with rfl | rfl <;> exact ⟨by decide, by decide⟩
  · intro f hf; simp [xR] at hf; subst hf; exact ⟨by decide, by decide⟩
/-- The record, and its parts, in each world. -/
structure FxW (xb : Nat) (rx : Raw) (W : World) : Prop where
  box : W.heap[xb]? = some (.cells #[.string (bs rx.1), rx.2.1, rx.2.2] 42 (0, 0))
  rec_ : RecIs W W.heap.size rx xR
  gl : Gl W
theorem FxW.step {xb : Nat} {rx : Raw} {W W' : World} (h : FxW xb rx W) (hb : Below W.heap.size W W') : FxW xb rx W' :=
  ⟨(hb.block _ (lt_of_block h.box)).trans h.box, h.rec_.step hb, h.gl.below hb⟩
theorem rowR_two {W : World} {g : Nat} {r : Raw} {x : Rc.Rec} {t : TypeId} (h : W.heap[g]? = some (.cells #[.string (bs r.1), r.2.1, r.2.2, .string (bs r.1), r.2.1, r.2.2] t (0, 0))) (hx : RecIs W W.heap.size r x) : RowR W W.heap.size (.slice (some ⟨g, 0, none⟩) 2 2) [x, x] :=
  ⟨[r, r], rowC_block (l := [r, r]) rf_length h (lt_of_block h) (by simp [maxLen]), rfl, fun i h h' => by
    match i, h with
    | 0, _ => exact hx
    | 1, _ => exact hx⟩
theorem ok1 : ∀ x ∈ [xR], RecOk x ∧ x.2.1.length < 1000000 := by
  intro x hx; simp at hx; subst hx; exact ⟨rec1, by decide⟩
theorem ok2 : ∀ x ∈ [xR, xR], RecOk x ∧ x.2.1.length < 1000000 := by
  intro x hx; simp at hx; subst hx; exact ⟨rec1, by decide⟩
theorem xlen : xR.2.1.length ≤ 1000000 ∧ xR.2.2.length ≤ 1000000 := by decide
theorem xlen1 : ∀ x ∈ [xR], x.2.1.length ≤ 1000000 ∧ x.2.2.length ≤ 1000000 := by
  intro x hx; simp at hx; subst hx; decide
abbrev rx0 (n : Nat) : Raw := ([114], .slice (some ⟨n, 0, none⟩) 2 2, .slice (some ⟨n + 1, 0, none⟩) 1 1)
theorem fx_start (w : World) (hg : Gl w) (W : World) (hW : W = (((w.alloc (.cells #[.string ⟨#[97]⟩, .bool false, .string ⟨#[]⟩, .string ⟨#[98]⟩, .bool true, .string ⟨#[116]⟩] 44)).alloc (.cells #[.string ⟨#[99]⟩, .string ⟨#[117]⟩] 46)).alloc (.cells #[.string ⟨#[114]⟩, .slice (some ⟨w.heap.size, 0, none⟩) 2 2, .slice (some ⟨w.heap.size + 1, 0, none⟩) 1 1] 42)).alloc (.cells #[.string ⟨#[114]⟩, .slice (some ⟨w.heap.size, 0, none⟩) 2 2, .slice (some ⟨w.heap.size + 1, 0, none⟩) 1 1] 42)) :
    FxW (w.heap.size + 1 + 1) (rx0 w.heap.size) W ∧ RowR W W.heap.size (.slice (some ⟨w.heap.size + 1 + 1 + 1, 0, none⟩) 1 1) [xR] ∧ Below w.heap.size w W := by
  obtain ⟨g3, g4, g1, g2⟩ := four w (.cells #[.string ⟨#[97]⟩, .bool false, .string ⟨#[]⟩, .string ⟨#[98]⟩, .bool true, .string ⟨#[116]⟩] 44) (.cells #[.string ⟨#[99]⟩, .string ⟨#[117]⟩] 46) (.cells #[.string ⟨#[114]⟩, .slice (some ⟨w.heap.size, 0, none⟩) 2 2, .slice (some ⟨w.heap.size + 1, 0, none⟩) 1 1] 42) (.cells #[.string ⟨#[114]⟩, .slice (some ⟨w.heap.size, 0, none⟩) 2 2, .slice (some ⟨w.heap.size + 1, 0, none⟩) 1 1] 42)
  have hb : Below w.heap.size w W := by
    rw [hW]
    exact ((((Below.refl _ w).alloc (Nat.le_refl _) _).alloc (by simp) _).alloc (by simp; omega) _).alloc (by simp; omega) _
  rw [← hW] at g1 g2 g3 g4
  have hrec : RecIs W W.heap.size (rx0 w.heap.size) xR := ⟨rfl, rowC_block (l := xR.2.1) sf_length g3 (lt_of_block g3) (by decide), rowC_block (l := xR.2.2) ff_length g4 (lt_of_block g4) (by decide)⟩
  exact ⟨⟨g1, hrec, hg.below hb⟩, rowR_one (r := rx0 w.heap.size) g2 hrec, hb⟩
theorem hB1 : ((bs B1).toList == [53, 58, 115, 116, 101, 116, 49, 44, 51, 54, 58, 49, 58, 114, 44, 49, 55, 58, 49, 58, 97, 44, 49, 58, 45, 44, 49, 58, 98, 44, 50, 58, 43, 116, 44, 44, 56, 58, 49, 58, 99, 44, 49, 58, 117, 44, 44, 44]) = true := by rw [toListB]; decide
theorem hB0 : ((bs [53, 58, 115, 116, 101, 116, 49, 44]).toList == [53, 58, 115, 116, 101, 116, 49, 44]) = true := by rw [toListB]; decide
theorem hBr : ((bs [114]).toList == [114]) = true := by rw [toListB]; decide
theorem Up.sublist {l m : List Wr.F} (h : Up l) (hs : m.Sublist l) : Up m := List.Pairwise.sublist hs h
theorem fresh_b {q : Bool} (rz : Raw) (z : Rc.Rec) (v : Value) (m : List Wr.F) (w : World) (hz : RecIs w w.heap.size rz z) (hr : RowC 2 ff w w.heap.size v m) (hu : Up m) (hn : m.length < 1000000) (hz1 : z.2.1.length < 1000000) (hz2 : z.2.2.length < 1000000) (hq : Rc.fresh z m = q) :
    Calls Tryz.prog 28 #[.agg #[.string (bs rz.1), rz.2.1, rz.2.2], v] w fun e w' => e = .returned (.bool q) ∧ Below w.heap.size w w' := by
  subst hq
  exact fresh_any rz z v m w hz hr hu hn hz1 hz2
theorem mF_drop {W : World} {B mb : Nat} (h : RowC 2 ff W B (.slice (some ⟨mb, 0, none⟩) 2 2) mF) : RowC 2 ff W B (.slice (some ⟨mb, 2, none⟩) 1 1) (mF.drop 1) := by
  obtain ⟨_, _, _, hc⟩ := h.bounds
  obtain ⟨b, off, e, hb, hc⟩ := hc 1 (by decide)
  injection e with e
  injection e with e1 e2
  subst e1 e2
  refine ⟨1, by decide, by decide, .inr ⟨mb, 2, rfl, hb, fun j hj i u hu => ?_⟩⟩
  have : j = 0 := by
    have : (mF.drop 1).length = 1 := rfl
    omega
  subst this
  have := hc i u hu
  simpa using this
theorem fx_exit1 {T T0 : Array Value} {i : Nat} {u : Value} (h1 : T = (T0.toList.take 66 ++ T.toList.drop 66).toArray) (h2 : T.toList.length = 153) (h3 : T.toList[66 + i]? = some u) : ∃ us : List Value, T = (T0.toList.take 66 ++ us).toArray ∧ us.length = 87 ∧ us[i]? = some u :=
  ⟨T.toList.drop 66, h1, by rw [List.length_drop, h2], by rw [List.getElem?_drop]; exact h3⟩
theorem fx_exit2 {T T0 : Array Value} {i j : Nat} {u v : Value} (h1 : T = (T0.toList.take 66 ++ T.toList.drop 66).toArray) (h2 : T.toList.length = 153) (h3 : T.toList[66 + i]? = some u) (h4 : T.toList[66 + j]? = some v) : ∃ us : List Value, T = (T0.toList.take 66 ++ us).toArray ∧ us.length = 87 ∧ us[i]? = some u ∧ us[j]? = some v :=
  ⟨T.toList.drop 66, h1, by rw [List.length_drop, h2], by rw [List.getElem?_drop]; exact h3, by rw [List.getElem?_drop]; exact h4⟩
theorem fx_end {w w13 x9 : World} {a : Act} (hb : Below w.heap.size w w13) (hdf : a.defers = []) (ht0 : a.tmps[0]? = some (.bool true)) (j9 : Below w13.heap.size w13 x9) :
    Code.wp Tryz.prog Code.ret (bodyPost Tryz.prog Tryz.f13 fun e w' => e = .returned (.bool true) ∧ Below w.heap.size w w') a x9 := by
  obtain ⟨tm, df⟩ := a
  simp only at hdf ht0
  subst hdf
  refine wp_ret ?_
  refine bodyPost_ret (v := .bool true) (by simp [results, Tryz.f13, go_sem, ht0]) rfl ?_
  exact ⟨rfl, below_via hb j9⟩
theorem open87 {us : List Value} (h : us.length = 87) : ∃ u66 u67 u68 u69 u70 u71 u72 u73 u74 u75 u76 u77 u78 u79 u80 u81 u82 u83 u84 u85 u86 u87 u88 u89 u90 u91 u92 u93 u94 u95 u96 u97 u98 u99 u100 u101 u102 u103 u104 u105 u106 u107 u108 u109 u110 u111 u112 u113 u114 u115 u116 u117 u118 u119 u120 u121 u122 u123 u124 u125 u126 u127 u128 u129 u130 u131 u132 u133 u134 u135 u136 u137 u138 u139 u140 u141 u142 u143 u144 u145 u146 u147 u148 u149 u150 u151 u152 : Value, us = [u66, u67, u68, u69, u70, u71, u72, u73, u74, u75, u76, u77, u78, u79, u80, u81, u82, u83, u84, u85, u86, u87, u88, u89, u90, u91, u92, u93, u94, u95, u96, u97, u98, u99, u100, u101, u102, u103, u104, u105, u106, u107, u108, u109, u110, u111, u112, u113, u114, u115, u116, u117, u118, u119, u120, u121, u122, u123, u124, u125, u126, u127, u128, u129, u130, u131, u132, u133, u134, u135, u136, u137, u138, u139, u140, u141, u142, u143, u144, u145, u146, u147, u148, u149, u150, u151, u152] := by
  obtain ⟨u66, r0, e0, h0⟩ := cons_of h
  obtain ⟨u67, r1, e1, h1⟩ := cons_of h0
  obtain ⟨u68, r2, e2, h2⟩ := cons_of h1
  obtain ⟨u69, r3, e3, h3⟩ := cons_of h2
  obtain ⟨u70, r4, e4, h4⟩ := cons_of h3
  obtain ⟨u71, r5, e5, h5⟩ := cons_of h4
  obtain ⟨u72, r6, e6, h6⟩ := cons_of h5
  obtain ⟨u73, r7, e7, h7⟩ := cons_of h6
  obtain ⟨u74, r8, e8, h8⟩ := cons_of h7
  obtain ⟨u75, r9, e9, h9⟩ := cons_of h8
  obtain ⟨u76, r10, e10, h10⟩ := cons_of h9
  obtain ⟨u77, r11, e11, h11⟩ := cons_of h10
  obtain ⟨u78, r12, e12, h12⟩ := cons_of h11
  obtain ⟨u79, r13, e13, h13⟩ := cons_of h12
  obtain ⟨u80, r14, e14, h14⟩ := cons_of h13
  obtain ⟨u81, r15, e15, h15⟩ := cons_of h14
  obtain ⟨u82, r16, e16, h16⟩ := cons_of h15
  obtain ⟨u83, r17, e17, h17⟩ := cons_of h16
  obtain ⟨u84, r18, e18, h18⟩ := cons_of h17
  obtain ⟨u85, r19, e19, h19⟩ := cons_of h18
  obtain ⟨u86, r20, e20, h20⟩ := cons_of h19
  obtain ⟨u87, r21, e21, h21⟩ := cons_of h20
  obtain ⟨u88, r22, e22, h22⟩ := cons_of h21
  obtain ⟨u89, r23, e23, h23⟩ := cons_of h22
  obtain ⟨u90, r24, e24, h24⟩ := cons_of h23
  obtain ⟨u91, r25, e25, h25⟩ := cons_of h24
  obtain ⟨u92, r26, e26, h26⟩ := cons_of h25
  obtain ⟨u93, r27, e27, h27⟩ := cons_of h26
  obtain ⟨u94, r28, e28, h28⟩ := cons_of h27
  obtain ⟨u95, r29, e29, h29⟩ := cons_of h28
  obtain ⟨u96, r30, e30, h30⟩ := cons_of h29
  obtain ⟨u97, r31, e31, h31⟩ := cons_of h30
  obtain ⟨u98, r32, e32, h32⟩ := cons_of h31
  obtain ⟨u99, r33, e33, h33⟩ := cons_of h32
  obtain ⟨u100, r34, e34, h34⟩ := cons_of h33
  obtain ⟨u101, r35, e35, h35⟩ := cons_of h34
  obtain ⟨u102, r36, e36, h36⟩ := cons_of h35
  obtain ⟨u103, r37, e37, h37⟩ := cons_of h36
  obtain ⟨u104, r38, e38, h38⟩ := cons_of h37
  obtain ⟨u105, r39, e39, h39⟩ := cons_of h38
  obtain ⟨u106, r40, e40, h40⟩ := cons_of h39
  obtain ⟨u107, r41, e41, h41⟩ := cons_of h40
  obtain ⟨u108, r42, e42, h42⟩ := cons_of h41
  obtain ⟨u109, r43, e43, h43⟩ := cons_of h42
  obtain ⟨u110, r44, e44, h44⟩ := cons_of h43
  obtain ⟨u111, r45, e45, h45⟩ := cons_of h44
  obtain ⟨u112, r46, e46, h46⟩ := cons_of h45
  obtain ⟨u113, r47, e47, h47⟩ := cons_of h46
  obtain ⟨u114, r48, e48, h48⟩ := cons_of h47
  obtain ⟨u115, r49, e49, h49⟩ := cons_of h48
  obtain ⟨u116, r50, e50, h50⟩ := cons_of h49
  obtain ⟨u117, r51, e51, h51⟩ := cons_of h50
  obtain ⟨u118, r52, e52, h52⟩ := cons_of h51
  obtain ⟨u119, r53, e53, h53⟩ := cons_of h52
  obtain ⟨u120, r54, e54, h54⟩ := cons_of h53
  obtain ⟨u121, r55, e55, h55⟩ := cons_of h54
  obtain ⟨u122, r56, e56, h56⟩ := cons_of h55
  obtain ⟨u123, r57, e57, h57⟩ := cons_of h56
  obtain ⟨u124, r58, e58, h58⟩ := cons_of h57
  obtain ⟨u125, r59, e59, h59⟩ := cons_of h58
  obtain ⟨u126, r60, e60, h60⟩ := cons_of h59
  obtain ⟨u127, r61, e61, h61⟩ := cons_of h60
  obtain ⟨u128, r62, e62, h62⟩ := cons_of h61
  obtain ⟨u129, r63, e63, h63⟩ := cons_of h62
  obtain ⟨u130, r64, e64, h64⟩ := cons_of h63
  obtain ⟨u131, r65, e65, h65⟩ := cons_of h64
  obtain ⟨u132, r66, e66, h66⟩ := cons_of h65
  obtain ⟨u133, r67, e67, h67⟩ := cons_of h66
  obtain ⟨u134, r68, e68, h68⟩ := cons_of h67
  obtain ⟨u135, r69, e69, h69⟩ := cons_of h68
  obtain ⟨u136, r70, e70, h70⟩ := cons_of h69
  obtain ⟨u137, r71, e71, h71⟩ := cons_of h70
  obtain ⟨u138, r72, e72, h72⟩ := cons_of h71
  obtain ⟨u139, r73, e73, h73⟩ := cons_of h72
  obtain ⟨u140, r74, e74, h74⟩ := cons_of h73
  obtain ⟨u141, r75, e75, h75⟩ := cons_of h74
  obtain ⟨u142, r76, e76, h76⟩ := cons_of h75
  obtain ⟨u143, r77, e77, h77⟩ := cons_of h76
  obtain ⟨u144, r78, e78, h78⟩ := cons_of h77
  obtain ⟨u145, r79, e79, h79⟩ := cons_of h78
  obtain ⟨u146, r80, e80, h80⟩ := cons_of h79
  obtain ⟨u147, r81, e81, h81⟩ := cons_of h80
  obtain ⟨u148, r82, e82, h82⟩ := cons_of h81
  obtain ⟨u149, r83, e83, h83⟩ := cons_of h82
  obtain ⟨u150, r84, e84, h84⟩ := cons_of h83
  obtain ⟨u151, r85, e85, h85⟩ := cons_of h84
  obtain ⟨u152, r86, e86, h86⟩ := cons_of h85
  have e87 := nil_of h86
  exact ⟨u66, u67, u68, u69, u70, u71, u72, u73, u74, u75, u76, u77, u78, u79, u80, u81, u82, u83, u84, u85, u86, u87, u88, u89, u90, u91, u92, u93, u94, u95, u96, u97, u98, u99, u100, u101, u102, u103, u104, u105, u106, u107, u108, u109, u110, u111, u112, u113, u114, u115, u116, u117, u118, u119, u120, u121, u122, u123, u124, u125, u126, u127, u128, u129, u130, u131, u132, u133, u134, u135, u136, u137, u138, u139, u140, u141, u142, u143, u144, u145, u146, u147, u148, u149, u150, u151, u152, by rw [e0, e1, e2, e3, e4, e5, e6, e7, e8, e9, e10, e11, e12, e13, e14, e15, e16, e17, e18, e19, e20, e21, e22, e23, e24, e25, e26, e27, e28, e29, e30, e31, e32, e33, e34, e35, e36, e37, e38, e39, e40, e41, e42, e43, e44, e45, e46, e47, e48, e49, e50, e51, e52, e53, e54, e55, e56, e57, e58, e59, e60, e61, e62, e63, e64, e65, e66, e67, e68, e69, e70, e71, e72, e73, e74, e75, e76, e77, e78, e79, e80, e81, e82, e83, e84, e85, e86, e87]⟩
set_option maxRecDepth 100000 in
set_option maxHeartbeats 64000000 in
theorem fixed_any (w : World) (hg : Gl w) : Calls Tryz.prog 13 #[] w fun e w' => e = .returned (.bool true) ∧ Below w.heap.size w w' := by
  have HG := Lib.hid hg
  have q1 := hB1
  have q0 := hB0
  clear hg
  go_enter Tryz.func13, Tryz.ntmps13
  go_wp2_with fail
  obtain ⟨W1, hW1⟩ : ∃ W, W = (((w.alloc (.cells #[.string ⟨#[97]⟩, .bool false, .string ⟨#[]⟩, .string ⟨#[98]⟩, .bool true, .string ⟨#[116]⟩] 44)).alloc (.cells #[.string ⟨#[99]⟩, .string ⟨#[117]⟩] 46)).alloc (.cells #[.string ⟨#[114]⟩, .slice (some ⟨w.heap.size, 0, none⟩) 2 2, .slice (some ⟨w.heap.size + 1, 0, none⟩) 1 1] 42)).alloc (.cells #[.string ⟨#[114]⟩, .slice (some ⟨w.heap.size, 0, none⟩) 2 2, .slice (some ⟨w.heap.size + 1, 0, none⟩) 1 1] 42) := ⟨_, rfl⟩
  rw [← hW1]
  obtain ⟨F1, R1, b1⟩ := fx_start w HG.out W1 hW1
  clear hW1
  obtain ⟨n, hn⟩ : ∃ n, n = w.heap.size := ⟨_, rfl⟩
  rw [← hn] at F1 R1 ⊢
  clear hn
  have HB1 := Lib.hid b1
  -- 1: Encode
  refine (enc_any _ [xR] W1 R1 (by decide) ok1 F1.gl).mono ?_
  rintro e w2 ⟨rfl, b2⟩
  rw [enc1]
  have F2 := F1.step b2
  have HB2 := Lib.hid (below_via HB1.out b2)
  clear R1 F1 b1 b2
  go_wp2_with fail
  -- 2: Decode
  refine (dec_any B1 w2 (by decide) F2.gl).mono ?_
  rintro e w3 ⟨b3, vl, rfl, R3⟩
  rw [dec1.2]
  rw [dec1.1] at R3
  have F3 := F2.step b3
  have HB3 := Lib.hid (below_via HB2.out b3)
  clear F2 b3
  obtain ⟨Al, cl, rfl, _⟩ := R3.shape
  go_wp2_with fail
  -- 3: Encode(nil)
  refine (enc_any _ [] w3 (RowR.nil _ _) (by decide) (by simp) F3.gl).mono ?_
  rintro e w4 ⟨rfl, b4⟩
  rw [enc0]
  have F4 := F3.step b4
  have R4 := R3.step b4
  have HB4 := Lib.hid (below_via HB3.out b4)
  clear F3 R3 b4
  go_wp2_with fail
  -- 4: Decode("")
  refine (dec_any [] w4 (by decide) F4.gl).mono ?_
  rintro e w5 ⟨b5, vo, rfl, _⟩
  rw [dec0]
  have F5 := F4.step b5
  have R5 := R4.step b5
  have HB5 := Lib.hid (below_via HB4.out b5)
  obtain ⟨x0, x1, x2, _, _, _⟩ := cells3 F5.box
  clear F4 R4 b5
  go_wp2_with fail
  -- 5: Encode([x, x])
  obtain ⟨W6, hW6⟩ : ∃ W, W = w5.alloc (.cells #[.string (bs [114]), .slice (some ⟨n, 0, none⟩) 2 2, .slice (some ⟨n + 1, 0, none⟩) 1 1, .string (bs [114]), .slice (some ⟨n, 0, none⟩) 2 2, .slice (some ⟨n + 1, 0, none⟩) 1 1] 42) := ⟨_, rfl⟩
  rw [← hW6]
  have b6 : Below w5.heap.size w5 W6 := by rw [hW6]; exact (Below.refl _ _).alloc (Nat.le_refl _) _
  have g6 : W6.heap[w5.heap.size]? = some (.cells #[.string (bs [114]), .slice (some ⟨n, 0, none⟩) 2 2, .slice (some ⟨n + 1, 0, none⟩) 1 1, .string (bs [114]), .slice (some ⟨n, 0, none⟩) 2 2, .slice (some ⟨n + 1, 0, none⟩) 1 1] 42 (0, 0)) := by rw [hW6]; exact heap_alloc_new _ _
  clear hW6
  have F6 := F5.step b6
  have R6 := R5.step b6
  have HB6 := Lib.hid (below_via HB5.out b6)
  refine (enc_any _ [xR, xR] W6 (rowR_two (r := rx0 n) g6 F6.rec_) (by decide) ok2 F6.gl).mono ?_
  rintro e w7 ⟨rfl, b7⟩
  rw [enc2]
  have F7 := F6.step b7
  have R7 := R6.step b7
  have HB7 := Lib.hid (below_via HB6.out b7)
  clear F5 R5 b6 g6 F6 R6 b7 x0 x1 x2
  go_wp2_with fail
  -- 6: Find(l, "r")
  obtain ⟨W8, hW8⟩ : ∃ W, W = w7.alloc (.cells #[.string ⟨#[98]⟩, .string ⟨#[116]⟩, .string ⟨#[99]⟩, .string ⟨#[117]⟩] 46) := ⟨_, rfl⟩
  rw [← hW8]
  have b8 : Below w7.heap.size w7 W8 := by rw [hW8]; exact (Below.refl _ _).alloc (Nat.le_refl _) _
  have g8 : W8.heap[w7.heap.size]? = some (.cells (mF.flatMap ff).toArray 46 (0, 0)) := by rw [hW8]; exact heap_alloc_new _ _
  clear hW8
  have M8 : RowC 2 ff W8 W8.heap.size (.slice (some ⟨w7.heap.size, 0, none⟩) 2 2) mF := rowC_block (l := mF) ff_length g8 (lt_of_block g8) (by decide)
  obtain ⟨mb, hmb⟩ : ∃ mb, mb = w7.heap.size := ⟨_, rfl⟩
  rw [← hmb] at M8 ⊢
  have F8 := F7.step b8
  have R8 := R7.step b8
  have HB8 := Lib.hid (below_via HB7.out b8)
  clear F7 R7 b8 g8 hmb
  refine (find_any _ [xR] [114] W8 R8 (by decide) xlen1).mono ?_
  rintro e w9 ⟨r9, rfl, X9, b9⟩
  rw [find1] at X9 ⊢
  have F9 := F8.step b9
  have R9 := R8.step b9
  have M9 := M8.step b9
  have HB9 := Lib.hid (below_via HB8.out b9)
  obtain ⟨yA, yp, yA', yp', rfl⟩ := X9.rows
  clear F8 R8 M8 b9 X9
  go_wp2_with fail
  -- 7: Find(l, "s")
  obtain ⟨W10, hW10⟩ : ∃ W, W = w9.alloc (.cells #[.string (bs xR.1), .slice yA xR.2.1.length yp, .slice yA' xR.2.2.length yp'] 42) := ⟨_, rfl⟩
  rw [← hW10]
  have b10 : Below w9.heap.size w9 W10 := by rw [hW10]; exact (Below.refl _ _).alloc (Nat.le_refl _) _
  have g10 : W10.heap[w9.heap.size]? = some (.cells #[.string (bs xR.1), .slice yA xR.2.1.length yp, .slice yA' xR.2.2.length yp'] 42 (0, 0)) := by rw [hW10]; exact heap_alloc_new _ _
  clear hW10
  have Y10 := (cells3 g10).1
  have yl := lt_of_block g10
  obtain ⟨yb, hyb⟩ : ∃ yb, yb = w9.heap.size := ⟨_, rfl⟩
  rw [← hyb] at Y10 yl ⊢
  have F10 := F9.step b10
  have R10 := R9.step b10
  have M10 := M9.step b10
  have HB10 := Lib.hid (below_via HB9.out b10)
  clear F9 R9 M9 b10 g10 hyb
  refine (find_any _ [xR] [115] W10 R10 (by decide) xlen1).mono ?_
  rintro e w11 ⟨r11, rfl, X11, b11⟩
  rw [find2] at X11 ⊢
  have F11 := F10.step b11
  have R11 := R10.step b11
  have M11 := M10.step b11
  have Y11 := (b11.cell (p := ⟨yb, 0, none⟩) yl).trans Y10
  have yl11 := Nat.lt_of_lt_of_le yl b11.size
  have HB11 := Lib.hid (below_via HB10.out b11)
  obtain ⟨zA, zp, zA', zp', rfl⟩ := X11.rows
  clear F10 R10 M10 b11 X11 Y10 yl
  go_wp2_with fail
  -- 8: Put(l, s)
  obtain ⟨W12, hW12⟩ : ∃ W, W = w11.alloc (.cells #[.string (bs []), .slice zA 0 zp, .slice zA' 0 zp'] 42) := ⟨_, rfl⟩
  rw [← hW12]
  have b12 : Below w11.heap.size w11 W12 := by rw [hW12]; exact (Below.refl _ _).alloc (Nat.le_refl _) _
  clear hW12
  have F12 := F11.step b12
  have R12 := R11.step b12
  have M12 := M11.step b12
  have Y12 := (b12.cell (p := ⟨yb, 0, none⟩) yl11).trans Y11
  have yl12 := Nat.lt_of_lt_of_le yl11 b12.size
  have HB12 := Lib.hid (below_via HB11.out b12)
  clear F11 R11 M11 b12 Y11 yl11
  refine (put_any _ [xR] ([115], .slice none 0 0, .slice none 0 0) sR W12 R12 ⟨rfl, ⟨0, by decide, by decide, .inl ⟨rfl, none, rfl⟩⟩, ⟨0, by decide, by decide, .inl ⟨rfl, none, rfl⟩⟩⟩ (by decide) xlen1 (by decide)).mono ?_
  rintro e w13 ⟨vp, rfl, P13, b13⟩
  rw [put1] at P13
  have F13 := F12.step b13
  have R13 := R12.step b13
  have M13 := M12.step b13
  have Y13 := (b13.cell (p := ⟨yb, 0, none⟩) yl12).trans Y12
  have yl13 := Nat.lt_of_lt_of_le yl12 b13.size
  have HB13 := Lib.hid (below_via HB12.out b13)
  clear F12 R12 M12 b13 Y12 yl12
  obtain ⟨pA, pc, rfl, _⟩ := P13.shape
  obtain ⟨x0, x1, x2, _, _, _⟩ := cells3 F13.box
  go_wp2_with fail
  have HS := Lib.hid (fun wx (hb : Below w13.heap.size w13 wx) => (show wx.cell? ⟨n + 1 + 1, 0, none⟩ = some (.string (bs [114])) ∧ wx.cell? ⟨n + 1 + 1, 1, none⟩ = some (.slice (some ⟨n, 0, none⟩) 2 2) ∧ wx.cell? ⟨n + 1 + 1, 2, none⟩ = some (.slice (some ⟨n + 1, 0, none⟩) 1 1) ∧ wx.cell? ⟨yb, 0, none⟩ = some (.string (bs xR.1)) from
    ⟨(cells3 (F13.step hb).box).1, (cells3 (F13.step hb).box).2.1, (cells3 (F13.step hb).box).2.2.1, (hb.cell (p := ⟨yb, 0, none⟩) yl13).trans Y13⟩))
  have HX := Lib.hid (fun wx (hb : Below w13.heap.size w13 wx) => (F13.step hb).rec_)
  have H1 := Lib.hid (fun wx (hb : Below w13.heap.size w13 wx) => refs_any _ [xR] wx (R13.step hb) (by decide) (fun x hx => by simp at hx; subst hx; decide))
  have H2 := Lib.hid (fun wx (hb : Below w13.heap.size w13 wx) (g : Nat) (hg : wx.heap[g]? = some (.cells #[.string ⟨#[114]⟩, .slice (some ⟨n, 0, none⟩) 2 2, .slice (some ⟨n + 1, 0, none⟩) 1 1] 42)) => refs_any (.slice (some ⟨g, 0, none⟩) 1 1) [xR] wx (rowR_one (r := rx0 n) hg (HX.out _ hb)) (by decide) (fun x hx => by simp at hx; subst hx; decide))
  have H4 := Lib.hid (fun wx (hb : Below w13.heap.size w13 wx) => fresh_b (rx0 n) xR _ mF wx (HX.out _ hb) (M13.step hb) up1 (by decide) (by decide) (by decide) fresh1)
  have H5 := Lib.hid (fun wx (hb : Below w13.heap.size w13 wx) => fresh_b (rx0 n) xR _ (mF.drop 1) wx (HX.out _ hb) (mF_drop (M13.step hb)) (up1.sublist (List.drop_sublist _ _)) (by decide) (by decide) (by decide) fresh2)
  have H6 := Lib.hid (fun wx (hb : Below w13.heap.size w13 wx) => fresh_b (rx0 n) xR _ (mF.take 1) wx (HX.out _ hb) ((M13.step hb).cutTo (k := 1) (by decide)) (up1.sublist (List.take_sublist _ _)) (by decide) (by decide) (by decide) fresh3)
  have H7 := Lib.hid (fun wx (hb : Below w13.heap.size w13 wx) (g : Nat) (hg : wx.heap[g]? = some (.cells #[.string ⟨#[97]⟩, .string ⟨#[98]⟩, .string ⟨#[97]⟩] 9)) => look_any _ (.slice (some ⟨g, 0, none⟩) 3 3) mF [[97], [98], [97]] wx (M13.step hb) (rowC_block (f := fun a => [vs a]) (l := [[97], [98], [97]]) (fun _ => rfl) hg (lt_of_block hg) (by decide)).row up1 (by decide) (by decide))
  have H9 := Lib.hid (fun wx (hb : Below w13.heap.size w13 wx) => put_any _ [xR, sR] (rx0 n) xR wx (P13.step hb) (HX.out _ hb) (by decide) (fun x hx => by simp at hx; rcases hx with rfl | rfl <;> decide) (by decide))
  obtain ⟨x0, x1, x2, _, _, _⟩ := cells3 F13.box
  clear F13 R13 M13 P13
  have qr : ((bs xR.1).toList == [114]) = true := hBr
  simp only [List.append]
  refine wp_cap (fun a0 ha0 => ?_)
  have J0 : Below w13.heap.size w13 w13.drew := (Below.refl _ _).drew
  refine wp_region_stages (13 + (40 + (9 + (26 + 0)))) (by kernel_rfl) (by kernel_rfl) ?_
  refine wpAny_stage (m := 0) (n := 13) (f := 13) (g := (40 + (9 + (26 + 0)))) (S := fun wx : World => wx.cell? ⟨n + 1 + 1, 0, none⟩ = some (.string (bs [114])) ∧ wx.cell? ⟨n + 1 + 1, 1, none⟩ = some (.slice (some ⟨n, 0, none⟩) 2 2) ∧ wx.cell? ⟨n + 1 + 1, 2, none⟩ = some (.slice (some ⟨n + 1, 0, none⟩) 1 1) ∧ wx.cell? ⟨yb, 0, none⟩ = some (.string (bs xR.1))) (R := fun a wx => a.defers = [] ∧ (∃ us : List Value, a.tmps = (a0.tmps.toList.take 66 ++ us).toArray ∧ us.length = 87 ∧ us[12]? = some (.bool true) ∧ us[6]? = some (.bool true)) ∧ Below w13.heap.size w13 wx) (by decide) (by kernel_rfl) (by intro j hj; rw [show Region.ready .any _ _ = [13] from by kernel_rfl] at hj; simp at hj <;> omega) (by kernel_rfl) (by kernel_rfl) (by decide) ?_ ?_
  · rw [ha0]
    as_aux_lemma =>
      refine WG_take (i := 0) (v := ?v1) (by simp only [List.getElem?_toArray, List.getElem?_cons_zero]; try rfl) (by decide) (by kernel_rfl) (by kernel_rfl) (by intro _ _ _ h; exact h) (Or.inl ⟨by rfl, ?hy1⟩) (HS.out _ J0) ?rest1
      case hy1 =>
        intro wx hx
        obtain ⟨s1, s2, s3, s4⟩ := hx
        go_simp
        try with_reducible rfl
      try simp only [Act.put, List.setIfInBounds_toArray, List.set_cons_zero, List.set_cons_succ]
      refine WG_take (i := 1) (v := ?v2) (by simp only [List.getElem?_toArray, List.getElem?_cons_succ, List.getElem?_cons_zero]; try rfl) (by decide) (by kernel_rfl) (by kernel_rfl) (by intro _ _ _ h; exact h) (Or.inl ⟨by rfl, ?hy2⟩) (HS.out _ J0) ?rest2
      case hy2 =>
        intro wx hx
        obtain ⟨s1, s2, s3, s4⟩ := hx
        go_simp
        try with_reducible rfl
      try simp only [Act.put, List.setIfInBounds_toArray, List.set_cons_zero, List.set_cons_succ]
      refine WG_take (i := 2) (v := ?v3) (by simp only [List.getElem?_toArray, List.getElem?_cons_succ, List.getElem?_cons_zero]; try rfl) (by decide) (by kernel_rfl) (by kernel_rfl) (by intro _ _ _ h; exact h) (Or.inl ⟨by rfl, ?hy3⟩) (HS.out _ J0) ?rest3
      case hy3 =>
        intro wx hx
        obtain ⟨s1, s2, s3, s4⟩ := hx
        go_simp
        try with_reducible rfl
      try simp only [Act.put, List.setIfInBounds_toArray, List.set_cons_zero, List.set_cons_succ]
      refine WG_take (i := 3) (v := ?v4) (by simp only [List.getElem?_toArray, List.getElem?_cons_succ, List.getElem?_cons_zero]; try rfl) (by decide) (by kernel_rfl) (by kernel_rfl) (by intro _ _ _ h; exact h) (Or.inl ⟨by rfl, ?hy4⟩) (HS.out _ J0) ?rest4
      case hy4 =>
        intro wx hx
        obtain ⟨s1, s2, s3, s4⟩ := hx
        go_simp
        try with_reducible rfl
      try simp only [Act.put, List.setIfInBounds_toArray, List.set_cons_zero, List.set_cons_succ]
      refine WG_take (i := 4) (v := ?v5) (by simp only [List.getElem?_toArray, List.getElem?_cons_succ, List.getElem?_cons_zero]; try rfl) (by decide) (by kernel_rfl) (by kernel_rfl) (by intro _ _ _ h; exact h) (Or.inl ⟨by rfl, ?hy5⟩) (HS.out _ J0) ?rest5
      case hy5 =>
        intro wx hx
        obtain ⟨s1, s2, s3, s4⟩ := hx
        go_simp
        try with_reducible rfl
      try simp only [Act.put, List.setIfInBounds_toArray, List.set_cons_zero, List.set_cons_succ]
      refine WG_take (i := 5) (v := ?v6) (by simp only [List.getElem?_toArray, List.getElem?_cons_succ, List.getElem?_cons_zero]; try rfl) (by decide) (by kernel_rfl) (by kernel_rfl) (by intro _ _ _ h; exact h) (Or.inl ⟨by rfl, ?hy6⟩) (HS.out _ J0) ?rest6
      case hy6 =>
        intro wx hx
        obtain ⟨s1, s2, s3, s4⟩ := hx
        go_simp
        try with_reducible rfl
      try simp only [Act.put, List.setIfInBounds_toArray, List.set_cons_zero, List.set_cons_succ]
      refine WG_take (i := 6) (v := ?v7) (by simp only [List.getElem?_toArray, List.getElem?_cons_succ, List.getElem?_cons_zero]; try rfl) (by decide) (by kernel_rfl) (by kernel_rfl) (by intro _ _ _ h; exact h) (Or.inl ⟨by rfl, ?hy7⟩) (HS.out _ J0) ?rest7
      case hy7 =>
        intro wx hx
        obtain ⟨s1, s2, s3, s4⟩ := hx
        go_simp
        try with_reducible rfl
      try simp only [Act.put, List.setIfInBounds_toArray, List.set_cons_zero, List.set_cons_succ]
      refine WG_take (i := 7) (v := ?v8) (by simp only [List.getElem?_toArray, List.getElem?_cons_succ, List.getElem?_cons_zero]; try rfl) (by decide) (by kernel_rfl) (by kernel_rfl) (by intro _ _ _ h; exact h) (Or.inl ⟨by rfl, ?hy8⟩) (HS.out _ J0) ?rest8
      case hy8 =>
        intro wx hx
        obtain ⟨s1, s2, s3, s4⟩ := hx
        go_simp
        try with_reducible rfl
      try simp only [Act.put, List.setIfInBounds_toArray, List.set_cons_zero, List.set_cons_succ]
      refine WG_take (i := 9) (v := ?v9) (by simp only [List.getElem?_toArray, List.getElem?_cons_succ, List.getElem?_cons_zero]; try rfl) (by decide) (by kernel_rfl) (by kernel_rfl) (by intro _ _ _ h; exact h) (Or.inl ⟨by rfl, ?hy9⟩) (HS.out _ J0) ?rest9
      case hy9 =>
        intro wx hx
        obtain ⟨s1, s2, s3, s4⟩ := hx
        go_simp
        try with_reducible rfl
      try simp only [Act.put, List.setIfInBounds_toArray, List.set_cons_zero, List.set_cons_succ]
      refine WG_two 8 10 (by kernel_rfl) ⟨_, (by simp only [List.getElem?_toArray, List.getElem?_cons_succ, List.getElem?_cons_zero]; try rfl), by decide, fun K hK => ?_⟩ ⟨_, (by simp only [List.getElem?_toArray, List.getElem?_cons_succ, List.getElem?_cons_zero]; try rfl), by decide, fun K hK => ?_⟩
      · go_simp
        refine (H1.out _ J0).mono ?_
        rintro e x14 ⟨v14, rfl, Q14, b14⟩
        have j14 : Below w13.heap.size w13 x14 := below_via J0 b14
        dsimp only
        refine hK _ _ (HS.out _ j14) ?_
        clear hK K
        try simp only [Act.put, List.setIfInBounds_toArray, List.set_cons_zero, List.set_cons_succ]
        refine WG_one 10 (by kernel_rfl) ⟨_, (by simp only [List.getElem?_toArray, List.getElem?_cons_succ, List.getElem?_cons_zero]; try rfl), by decide, fun K hK => ?_⟩
        go_simp
        refine hK _ _ (HS.out _ (Bal j14)) ?_
        clear hK K
        try simp only [Act.put, List.setIfInBounds_toArray, List.set_cons_zero, List.set_cons_succ]
        refine WG_one 11 (by kernel_rfl) ⟨_, (by simp only [List.getElem?_toArray, List.getElem?_cons_succ, List.getElem?_cons_zero]; try rfl), by decide, fun K hK => ?_⟩
        go_simp
        refine (H2.out _ (Bal j14) _ (heap_alloc_new _ _)).mono ?_
        rintro e x16 ⟨v16, rfl, S16, b16⟩
        have k16 : Below x14.heap.size x14 x16 := below_via ((Below.refl _ _).alloc (Nat.le_refl _) _) b16
        have j16 : Below w13.heap.size w13 x16 := below_via j14 k16
        dsimp only
        refine hK _ _ (HS.out _ j16) ?_
        clear hK K
        try simp only [Act.put, List.setIfInBounds_toArray, List.set_cons_zero, List.set_cons_succ]
        refine WG_one 12 (by kernel_rfl) ⟨_, (by simp only [List.getElem?_toArray, List.getElem?_cons_succ, List.getElem?_cons_zero]; try rfl), by decide, fun K hK => ?_⟩
        go_simp
        refine (same_any (q := true) _ _ [xR] [xR] (by simp) x16 (Q14.step k16) S16 (by decide) (by decide) (fun x hx => by simp at hx; subst hx; decide) (fun x hx => by simp at hx; subst hx; decide)).mono ?_
        rintro e x17 ⟨rfl, nq, rfl⟩
        have j17 := below_via j16 (below_of_drewN (a := x16) (B := x16.heap.size) nq)
        dsimp only
        refine hK _ _ (HS.out _ j17) ?_
        clear hK K
        try simp only [Act.put, List.setIfInBounds_toArray, List.set_cons_zero, List.set_cons_succ]
        refine WG_done (by kernel_rfl) ⟨rfl, fx_exit2 (by kernel_rfl) (by kernel_rfl) (by kernel_rfl) (by kernel_rfl), j17⟩
      · go_simp
        refine hK _ _ (HS.out _ (Dr (Bal (Below.refl _ _)))) ?_
        clear hK K
        try simp only [Act.put, List.setIfInBounds_toArray, List.set_cons_zero, List.set_cons_succ]
        refine WG_one 8 (by kernel_rfl) ⟨_, (by simp only [List.getElem?_toArray, List.getElem?_cons_succ, List.getElem?_cons_zero]; try rfl), by decide, fun K hK => ?_⟩
        go_simp
        refine (H1.out _ (Dr (Bal (Below.refl _ _)))).mono ?_
        rintro e x14 ⟨v14, rfl, Q14, b14⟩
        have j14 : Below w13.heap.size w13 x14 := below_via (Dr (Bal (Below.refl _ _))) b14
        have g15 := (b14.block w13.heap.size (by simp)).trans (heap_alloc_new w13 (.cells #[.string ⟨#[114]⟩, .slice (some ⟨n, 0, none⟩) 2 2, .slice (some ⟨n + 1, 0, none⟩) 1 1] 42))
        dsimp only
        refine hK _ _ (HS.out _ j14) ?_
        clear hK K
        try simp only [Act.put, List.setIfInBounds_toArray, List.set_cons_zero, List.set_cons_succ]
        refine WG_one 11 (by kernel_rfl) ⟨_, (by simp only [List.getElem?_toArray, List.getElem?_cons_succ, List.getElem?_cons_zero]; try rfl), by decide, fun K hK => ?_⟩
        go_simp
        refine (H2.out x14 j14 w13.heap.size g15).mono ?_
        rintro e x16 ⟨v16, rfl, S16, k16⟩
        have j16 : Below w13.heap.size w13 x16 := below_via j14 k16
        dsimp only
        refine hK _ _ (HS.out _ j16) ?_
        clear hK K
        try simp only [Act.put, List.setIfInBounds_toArray, List.set_cons_zero, List.set_cons_succ]
        refine WG_one 12 (by kernel_rfl) ⟨_, (by simp only [List.getElem?_toArray, List.getElem?_cons_succ, List.getElem?_cons_zero]; try rfl), by decide, fun K hK => ?_⟩
        go_simp
        refine (same_any (q := true) _ _ [xR] [xR] (by simp) x16 (Q14.step k16) S16 (by decide) (by decide) (fun x hx => by simp at hx; subst hx; decide) (fun x hx => by simp at hx; subst hx; decide)).mono ?_
        rintro e x17 ⟨rfl, nq, rfl⟩
        have j17 := below_via j16 (below_of_drewN (a := x16) (B := x16.heap.size) nq)
        dsimp only
        refine hK _ _ (HS.out _ j17) ?_
        clear hK K
        try simp only [Act.put, List.setIfInBounds_toArray, List.set_cons_zero, List.set_cons_succ]
        refine WG_done (by kernel_rfl) ⟨rfl, fx_exit2 (by kernel_rfl) (by kernel_rfl) (by kernel_rfl) (by kernel_rfl), j17⟩
  · intro a x hRel
    obtain ⟨hdf, ⟨us, h1, hlen, b0, b1⟩, j0⟩ := hRel
    obtain ⟨u66, u67, u68, u69, u70, u71, u72, u73, u74, u75, u76, u77, u78, u79, u80, u81, u82, u83, u84, u85, u86, u87, u88, u89, u90, u91, u92, u93, u94, u95, u96, u97, u98, u99, u100, u101, u102, u103, u104, u105, u106, u107, u108, u109, u110, u111, u112, u113, u114, u115, u116, u117, u118, u119, u120, u121, u122, u123, u124, u125, u126, u127, u128, u129, u130, u131, u132, u133, u134, u135, u136, u137, u138, u139, u140, u141, u142, u143, u144, u145, u146, u147, u148, u149, u150, u151, u152, rfl⟩ := open87 hlen
    clear hlen
    simp only [List.getElem?_cons_succ, List.getElem?_cons_zero, Option.some.injEq] at b0
    subst b0
    simp only [List.getElem?_cons_succ, List.getElem?_cons_zero, Option.some.injEq] at b1
    subst b1
    rw [ha0] at h1
    simp only [List.take_succ_cons, List.take_zero, List.cons_append, List.nil_append] at h1
    obtain ⟨tm, df⟩ := a
    simp only at h1 hdf
    subst h1 hdf
    refine wpAny_stage (m := 13) (n := 53) (f := 40) (g := (9 + (26 + 0))) (S := fun wx : World => wx.cell? ⟨n + 1 + 1, 0, none⟩ = some (.string (bs [114])) ∧ wx.cell? ⟨n + 1 + 1, 1, none⟩ = some (.slice (some ⟨n, 0, none⟩) 2 2) ∧ wx.cell? ⟨n + 1 + 1, 2, none⟩ = some (.slice (some ⟨n + 1, 0, none⟩) 1 1) ∧ wx.cell? ⟨yb, 0, none⟩ = some (.string (bs xR.1))) (R := fun a wx => a.defers = [] ∧ (∃ us : List Value, a.tmps = (a0.tmps.toList.take 66 ++ us).toArray ∧ us.length = 87 ∧ us[52]? = some (.bool true)) ∧ Below w13.heap.size w13 wx) (by decide) (by kernel_rfl) (by intro j hj; rw [show Region.ready .any _ _ = [53] from by kernel_rfl] at hj; simp at hj <;> omega) (by kernel_rfl) (by kernel_rfl) (by decide) ?_ ?_
    · as_aux_lemma =>
        refine WG_take (i := 13) (v := ?v10) (by simp only [List.getElem?_toArray, List.getElem?_cons_succ, List.getElem?_cons_zero]; try rfl) (by decide) (by kernel_rfl) (by kernel_rfl) (by intro _ _ _ h; exact h) (Or.inl ⟨by rfl, ?hy10⟩) (HS.out _ j0) ?rest10
        case hy10 =>
          intro wx hx
          obtain ⟨s1, s2, s3, s4⟩ := hx
          go_simp
          try with_reducible rfl
        try simp only [Act.put, List.setIfInBounds_toArray, List.set_cons_zero, List.set_cons_succ]
        refine WG_take (i := 14) (v := ?v11) (by simp only [List.getElem?_toArray, List.getElem?_cons_succ, List.getElem?_cons_zero]; try rfl) (by decide) (by kernel_rfl) (by kernel_rfl) (by intro _ _ _ h; exact h) (Or.inl ⟨by rfl, ?hy11⟩) (HS.out _ j0) ?rest11
        case hy11 =>
          intro wx hx
          obtain ⟨s1, s2, s3, s4⟩ := hx
          go_simp
          try with_reducible rfl
        try simp only [Act.put, List.setIfInBounds_toArray, List.set_cons_zero, List.set_cons_succ]
        refine WG_take (i := 15) (v := ?v12) (by simp only [List.getElem?_toArray, List.getElem?_cons_succ, List.getElem?_cons_zero]; try rfl) (by decide) (by kernel_rfl) (by kernel_rfl) (by intro _ _ _ h; exact h) (Or.inl ⟨by rfl, ?hy12⟩) (HS.out _ j0) ?rest12
        case hy12 =>
          intro wx hx
          obtain ⟨s1, s2, s3, s4⟩ := hx
          go_simp
          try with_reducible rfl
        try simp only [Act.put, List.setIfInBounds_toArray, List.set_cons_zero, List.set_cons_succ]
        refine WG_take (i := 16) (v := ?v13) (by simp only [List.getElem?_toArray, List.getElem?_cons_succ, List.getElem?_cons_zero]; try rfl) (by decide) (by kernel_rfl) (by kernel_rfl) (by intro _ _ _ h; exact h) (Or.inl ⟨by rfl, ?hy13⟩) (HS.out _ j0) ?rest13
        case hy13 =>
          intro wx hx
          obtain ⟨s1, s2, s3, s4⟩ := hx
          go_simp
          try with_reducible rfl
        try simp only [Act.put, List.setIfInBounds_toArray, List.set_cons_zero, List.set_cons_succ]
        refine WG_take (i := 17) (v := ?v14) (by simp only [List.getElem?_toArray, List.getElem?_cons_succ, List.getElem?_cons_zero]; try rfl) (by decide) (by kernel_rfl) (by kernel_rfl) (by intro _ _ _ h; exact h) (Or.inl ⟨by rfl, ?hy14⟩) (HS.out _ j0) ?rest14
        case hy14 =>
          intro wx hx
          obtain ⟨s1, s2, s3, s4⟩ := hx
          go_simp
          try with_reducible rfl
        try simp only [Act.put, List.setIfInBounds_toArray, List.set_cons_zero, List.set_cons_succ]
        refine WG_take (i := 18) (v := ?v15) (by simp only [List.getElem?_toArray, List.getElem?_cons_succ, List.getElem?_cons_zero]; try rfl) (by decide) (by kernel_rfl) (by kernel_rfl) (by intro _ _ _ h; exact h) (Or.inl ⟨by rfl, ?hy15⟩) (HS.out _ j0) ?rest15
        case hy15 =>
          intro wx hx
          obtain ⟨s1, s2, s3, s4⟩ := hx
          go_simp
          try with_reducible rfl
        try simp only [Act.put, List.setIfInBounds_toArray, List.set_cons_zero, List.set_cons_succ]
        refine WG_take (i := 19) (v := ?v16) (by simp only [List.getElem?_toArray, List.getElem?_cons_succ, List.getElem?_cons_zero]; try rfl) (by decide) (by kernel_rfl) (by kernel_rfl) (by intro _ _ _ h; exact h) (Or.inl ⟨by rfl, ?hy16⟩) (HS.out _ j0) ?rest16
        case hy16 =>
          intro wx hx
          obtain ⟨s1, s2, s3, s4⟩ := hx
          go_simp
          try with_reducible rfl
        try simp only [Act.put, List.setIfInBounds_toArray, List.set_cons_zero, List.set_cons_succ]
        refine WG_take (i := 20) (v := ?v17) (by simp only [List.getElem?_toArray, List.getElem?_cons_succ, List.getElem?_cons_zero]; try rfl) (by decide) (by kernel_rfl) (by kernel_rfl) (by intro _ _ _ h; exact h) (Or.inl ⟨by rfl, ?hy17⟩) (HS.out _ j0) ?rest17
        case hy17 =>
          intro wx hx
          obtain ⟨s1, s2, s3, s4⟩ := hx
          go_simp
          try with_reducible rfl
        try simp only [Act.put, List.setIfInBounds_toArray, List.set_cons_zero, List.set_cons_succ]
        refine WG_take (i := 21) (v := ?v18) (by simp only [List.getElem?_toArray, List.getElem?_cons_succ, List.getElem?_cons_zero]; try rfl) (by decide) (by kernel_rfl) (by kernel_rfl) (by intro _ _ _ h; exact h) (Or.inl ⟨by rfl, ?hy18⟩) (HS.out _ j0) ?rest18
        case hy18 =>
          intro wx hx
          obtain ⟨s1, s2, s3, s4⟩ := hx
          go_simp
          try with_reducible rfl
        try simp only [Act.put, List.setIfInBounds_toArray, List.set_cons_zero, List.set_cons_succ]
        refine WG_take (i := 22) (v := ?v19) (by simp only [List.getElem?_toArray, List.getElem?_cons_succ, List.getElem?_cons_zero]; try rfl) (by decide) (by kernel_rfl) (by kernel_rfl) (by intro _ _ _ h; exact h) (Or.inl ⟨by rfl, ?hy19⟩) (HS.out _ j0) ?rest19
        case hy19 =>
          intro wx hx
          obtain ⟨s1, s2, s3, s4⟩ := hx
          go_simp
          try with_reducible rfl
        try simp only [Act.put, List.setIfInBounds_toArray, List.set_cons_zero, List.set_cons_succ]
        refine WG_take (i := 23) (v := ?v20) (by simp only [List.getElem?_toArray, List.getElem?_cons_succ, List.getElem?_cons_zero]; try rfl) (by decide) (by kernel_rfl) (by kernel_rfl) (by intro _ _ _ h; exact h) (Or.inl ⟨by rfl, ?hy20⟩) (HS.out _ j0) ?rest20
        case hy20 =>
          intro wx hx
          obtain ⟨s1, s2, s3, s4⟩ := hx
          go_simp
          try with_reducible rfl
        try simp only [Act.put, List.setIfInBounds_toArray, List.set_cons_zero, List.set_cons_succ]
        refine WG_take (i := 24) (v := ?v21) (by simp only [List.getElem?_toArray, List.getElem?_cons_succ, List.getElem?_cons_zero]; try rfl) (by decide) (by kernel_rfl) (by kernel_rfl) (by intro _ _ _ h; exact h) (Or.inl ⟨by rfl, ?hy21⟩) (HS.out _ j0) ?rest21
        case hy21 =>
          intro wx hx
          obtain ⟨s1, s2, s3, s4⟩ := hx
          go_simp
          try with_reducible rfl
        try simp only [Act.put, List.setIfInBounds_toArray, List.set_cons_zero, List.set_cons_succ]
        refine WG_take (i := 25) (v := ?v22) (by simp only [List.getElem?_toArray, List.getElem?_cons_succ, List.getElem?_cons_zero]; try rfl) (by decide) (by kernel_rfl) (by kernel_rfl) (by intro _ _ _ h; exact h) (Or.inl ⟨by rfl, ?hy22⟩) (HS.out _ j0) ?rest22
        case hy22 =>
          intro wx hx
          obtain ⟨s1, s2, s3, s4⟩ := hx
          go_simp
          try with_reducible rfl
        try simp only [Act.put, List.setIfInBounds_toArray, List.set_cons_zero, List.set_cons_succ]
        refine WG_take (i := 26) (v := ?v23) (by simp only [List.getElem?_toArray, List.getElem?_cons_succ, List.getElem?_cons_zero]; try rfl) (by decide) (by kernel_rfl) (by kernel_rfl) (by intro _ _ _ h; exact h) (Or.inl ⟨by rfl, ?hy23⟩) (HS.out _ j0) ?rest23
        case hy23 =>
          intro wx hx
          obtain ⟨s1, s2, s3, s4⟩ := hx
          go_simp
          try with_reducible rfl
        try simp only [Act.put, List.setIfInBounds_toArray, List.set_cons_zero, List.set_cons_succ]
        refine WG_take (i := 27) (v := ?v24) (by simp only [List.getElem?_toArray, List.getElem?_cons_succ, List.getElem?_cons_zero]; try rfl) (by decide) (by kernel_rfl) (by kernel_rfl) (by intro _ _ _ h; exact h) (Or.inl ⟨by rfl, ?hy24⟩) (HS.out _ j0) ?rest24
        case hy24 =>
          intro wx hx
          obtain ⟨s1, s2, s3, s4⟩ := hx
          go_simp
          try with_reducible rfl
        try simp only [Act.put, List.setIfInBounds_toArray, List.set_cons_zero, List.set_cons_succ]
        refine WG_take (i := 28) (v := ?v25) (by simp only [List.getElem?_toArray, List.getElem?_cons_succ, List.getElem?_cons_zero]; try rfl) (by decide) (by kernel_rfl) (by kernel_rfl) (by intro _ _ _ h; exact h) (Or.inl ⟨by rfl, ?hy25⟩) (HS.out _ j0) ?rest25
        case hy25 =>
          intro wx hx
          obtain ⟨s1, s2, s3, s4⟩ := hx
          go_simp
          try with_reducible rfl
        try simp only [Act.put, List.setIfInBounds_toArray, List.set_cons_zero, List.set_cons_succ]
        refine WG_take (i := 29) (v := ?v26) (by simp only [List.getElem?_toArray, List.getElem?_cons_succ, List.getElem?_cons_zero]; try rfl) (by decide) (by kernel_rfl) (by kernel_rfl) (by intro _ _ _ h; exact h) (Or.inl ⟨by rfl, ?hy26⟩) (HS.out _ j0) ?rest26
        case hy26 =>
          intro wx hx
          obtain ⟨s1, s2, s3, s4⟩ := hx
          go_simp
          try with_reducible rfl
        try simp only [Act.put, List.setIfInBounds_toArray, List.set_cons_zero, List.set_cons_succ]
        refine WG_take (i := 30) (v := ?v27) (by simp only [List.getElem?_toArray, List.getElem?_cons_succ, List.getElem?_cons_zero]; try rfl) (by decide) (by kernel_rfl) (by kernel_rfl) (by intro _ _ _ h; exact h) (Or.inl ⟨by rfl, ?hy27⟩) (HS.out _ j0) ?rest27
        case hy27 =>
          intro wx hx
          obtain ⟨s1, s2, s3, s4⟩ := hx
          go_simp
          try with_reducible rfl
        try simp only [Act.put, List.setIfInBounds_toArray, List.set_cons_zero, List.set_cons_succ]
        refine WG_take (i := 31) (v := ?v28) (by simp only [List.getElem?_toArray, List.getElem?_cons_succ, List.getElem?_cons_zero]; try rfl) (by decide) (by kernel_rfl) (by kernel_rfl) (by intro _ _ _ h; exact h) (Or.inl ⟨by rfl, ?hy28⟩) (HS.out _ j0) ?rest28
        case hy28 =>
          intro wx hx
          obtain ⟨s1, s2, s3, s4⟩ := hx
          go_simp
          try with_reducible rfl
        try simp only [Act.put, List.setIfInBounds_toArray, List.set_cons_zero, List.set_cons_succ]
        refine WG_take (i := 32) (v := ?v29) (by simp only [List.getElem?_toArray, List.getElem?_cons_succ, List.getElem?_cons_zero]; try rfl) (by decide) (by kernel_rfl) (by kernel_rfl) (by intro _ _ _ h; exact h) (Or.inl ⟨by rfl, ?hy29⟩) (HS.out _ j0) ?rest29
        case hy29 =>
          intro wx hx
          obtain ⟨s1, s2, s3, s4⟩ := hx
          go_simp
          try with_reducible rfl
        try simp only [Act.put, List.setIfInBounds_toArray, List.set_cons_zero, List.set_cons_succ]
        refine WG_take (i := 33) (v := ?v30) (by simp only [List.getElem?_toArray, List.getElem?_cons_succ, List.getElem?_cons_zero]; try rfl) (by decide) (by kernel_rfl) (by kernel_rfl) (by intro _ _ _ h; exact h) (Or.inl ⟨by rfl, ?hy30⟩) (HS.out _ j0) ?rest30
        case hy30 =>
          intro wx hx
          obtain ⟨s1, s2, s3, s4⟩ := hx
          go_simp
          try with_reducible rfl
        try simp only [Act.put, List.setIfInBounds_toArray, List.set_cons_zero, List.set_cons_succ]
        refine WG_take (i := 34) (v := ?v31) (by simp only [List.getElem?_toArray, List.getElem?_cons_succ, List.getElem?_cons_zero]; try rfl) (by decide) (by kernel_rfl) (by kernel_rfl) (by intro _ _ _ h; exact h) (Or.inl ⟨by rfl, ?hy31⟩) (HS.out _ j0) ?rest31
        case hy31 =>
          intro wx hx
          obtain ⟨s1, s2, s3, s4⟩ := hx
          go_simp
          try with_reducible rfl
        try simp only [Act.put, List.setIfInBounds_toArray, List.set_cons_zero, List.set_cons_succ]
        refine WG_take (i := 35) (v := ?v32) (by simp only [List.getElem?_toArray, List.getElem?_cons_succ, List.getElem?_cons_zero]; try rfl) (by decide) (by kernel_rfl) (by kernel_rfl) (by intro _ _ _ h; exact h) (Or.inl ⟨by rfl, ?hy32⟩) (HS.out _ j0) ?rest32
        case hy32 =>
          intro wx hx
          obtain ⟨s1, s2, s3, s4⟩ := hx
          go_simp
          try with_reducible rfl
        try simp only [Act.put, List.setIfInBounds_toArray, List.set_cons_zero, List.set_cons_succ]
        refine WG_take (i := 36) (v := ?v33) (by simp only [List.getElem?_toArray, List.getElem?_cons_succ, List.getElem?_cons_zero]; try rfl) (by decide) (by kernel_rfl) (by kernel_rfl) (by intro _ _ _ h; exact h) (Or.inl ⟨by rfl, ?hy33⟩) (HS.out _ j0) ?rest33
        case hy33 =>
          intro wx hx
          obtain ⟨s1, s2, s3, s4⟩ := hx
          go_simp
          try with_reducible rfl
        try simp only [Act.put, List.setIfInBounds_toArray, List.set_cons_zero, List.set_cons_succ]
        refine WG_one 37 (by kernel_rfl) ⟨_, (by simp only [List.getElem?_toArray, List.getElem?_cons_succ, List.getElem?_cons_zero]; try rfl), by decide, fun K hK => ?_⟩
        go_simp
        refine (H4.out _ j0).mono ?_
        rintro e x18 ⟨rfl, bx18⟩
        have j18 : Below w13.heap.size w13 x18 := below_via j0 bx18
        dsimp only
        refine hK _ _ (HS.out _ j18) ?_
        clear hK K
        try simp only [Act.put, List.setIfInBounds_toArray, List.set_cons_zero, List.set_cons_succ]
        refine WG_take (i := 38) (v := ?v34) (by simp only [List.getElem?_toArray, List.getElem?_cons_succ, List.getElem?_cons_zero]; try rfl) (by decide) (by kernel_rfl) (by kernel_rfl) (by intro _ _ _ h; exact h) (Or.inl ⟨by rfl, ?hy34⟩) (HS.out _ j18) ?rest34
        case hy34 =>
          intro wx hx
          obtain ⟨s1, s2, s3, s4⟩ := hx
          go_simp
          try with_reducible rfl
        try simp only [Act.put, List.setIfInBounds_toArray, List.set_cons_zero, List.set_cons_succ]
        refine WG_take (i := 39) (v := ?v35) (by simp only [List.getElem?_toArray, List.getElem?_cons_succ, List.getElem?_cons_zero]; try rfl) (by decide) (by kernel_rfl) (by kernel_rfl) (by intro _ _ _ h; exact h) (Or.inl ⟨by rfl, ?hy35⟩) (HS.out _ j18) ?rest35
        case hy35 =>
          intro wx hx
          obtain ⟨s1, s2, s3, s4⟩ := hx
          go_simp
          try with_reducible rfl
        try simp only [Act.put, List.setIfInBounds_toArray, List.set_cons_zero, List.set_cons_succ]
        refine WG_take (i := 40) (v := ?v36) (by simp only [List.getElem?_toArray, List.getElem?_cons_succ, List.getElem?_cons_zero]; try rfl) (by decide) (by kernel_rfl) (by kernel_rfl) (by intro _ _ _ h; exact h) (Or.inl ⟨by rfl, ?hy36⟩) (HS.out _ j18) ?rest36
        case hy36 =>
          intro wx hx
          obtain ⟨s1, s2, s3, s4⟩ := hx
          go_simp
          try with_reducible rfl
        try simp only [Act.put, List.setIfInBounds_toArray, List.set_cons_zero, List.set_cons_succ]
        refine WG_take (i := 41) (v := ?v37) (by simp only [List.getElem?_toArray, List.getElem?_cons_succ, List.getElem?_cons_zero]; try rfl) (by decide) (by kernel_rfl) (by kernel_rfl) (by intro _ _ _ h; exact h) (Or.inl ⟨by rfl, ?hy37⟩) (HS.out _ j18) ?rest37
        case hy37 =>
          intro wx hx
          obtain ⟨s1, s2, s3, s4⟩ := hx
          go_simp
          try with_reducible rfl
        try simp only [Act.put, List.setIfInBounds_toArray, List.set_cons_zero, List.set_cons_succ]
        refine WG_take (i := 42) (v := ?v38) (by simp only [List.getElem?_toArray, List.getElem?_cons_succ, List.getElem?_cons_zero]; try rfl) (by decide) (by kernel_rfl) (by kernel_rfl) (by intro _ _ _ h; exact h) (Or.inl ⟨by rfl, ?hy38⟩) (HS.out _ j18) ?rest38
        case hy38 =>
          intro wx hx
          obtain ⟨s1, s2, s3, s4⟩ := hx
          go_simp
          try with_reducible rfl
        try simp only [Act.put, List.setIfInBounds_toArray, List.set_cons_zero, List.set_cons_succ]
        refine WG_one 43 (by kernel_rfl) ⟨_, (by simp only [List.getElem?_toArray, List.getElem?_cons_succ, List.getElem?_cons_zero]; try rfl), by decide, fun K hK => ?_⟩
        go_simp
        refine (H5.out _ j18).mono ?_
        rintro e x19 ⟨rfl, bx19⟩
        have j19 : Below w13.heap.size w13 x19 := below_via j18 bx19
        dsimp only
        refine hK _ _ (HS.out _ j19) ?_
        clear hK K
        try simp only [Act.put, List.setIfInBounds_toArray, List.set_cons_zero, List.set_cons_succ]
        refine WG_take (i := 44) (v := ?v39) (by simp only [List.getElem?_toArray, List.getElem?_cons_succ, List.getElem?_cons_zero]; try rfl) (by decide) (by kernel_rfl) (by kernel_rfl) (by intro _ _ _ h; exact h) (Or.inl ⟨by rfl, ?hy39⟩) (HS.out _ j19) ?rest39
        case hy39 =>
          intro wx hx
          obtain ⟨s1, s2, s3, s4⟩ := hx
          go_simp
          try with_reducible rfl
        try simp only [Act.put, List.setIfInBounds_toArray, List.set_cons_zero, List.set_cons_succ]
        refine WG_take (i := 45) (v := ?v40) (by simp only [List.getElem?_toArray, List.getElem?_cons_succ, List.getElem?_cons_zero]; try rfl) (by decide) (by kernel_rfl) (by kernel_rfl) (by intro _ _ _ h; exact h) (Or.inl ⟨by rfl, ?hy40⟩) (HS.out _ j19) ?rest40
        case hy40 =>
          intro wx hx
          obtain ⟨s1, s2, s3, s4⟩ := hx
          go_simp
          try with_reducible rfl
        try simp only [Act.put, List.setIfInBounds_toArray, List.set_cons_zero, List.set_cons_succ]
        refine WG_take (i := 46) (v := ?v41) (by simp only [List.getElem?_toArray, List.getElem?_cons_succ, List.getElem?_cons_zero]; try rfl) (by decide) (by kernel_rfl) (by kernel_rfl) (by intro _ _ _ h; exact h) (Or.inl ⟨by rfl, ?hy41⟩) (HS.out _ j19) ?rest41
        case hy41 =>
          intro wx hx
          obtain ⟨s1, s2, s3, s4⟩ := hx
          go_simp
          try with_reducible rfl
        try simp only [Act.put, List.setIfInBounds_toArray, List.set_cons_zero, List.set_cons_succ]
        refine WG_take (i := 47) (v := ?v42) (by simp only [List.getElem?_toArray, List.getElem?_cons_succ, List.getElem?_cons_zero]; try rfl) (by decide) (by kernel_rfl) (by kernel_rfl) (by intro _ _ _ h; exact h) (Or.inl ⟨by rfl, ?hy42⟩) (HS.out _ j19) ?rest42
        case hy42 =>
          intro wx hx
          obtain ⟨s1, s2, s3, s4⟩ := hx
          go_simp
          try with_reducible rfl
        try simp only [Act.put, List.setIfInBounds_toArray, List.set_cons_zero, List.set_cons_succ]
        refine WG_take (i := 48) (v := ?v43) (by simp only [List.getElem?_toArray, List.getElem?_cons_succ, List.getElem?_cons_zero]; try rfl) (by decide) (by kernel_rfl) (by kernel_rfl) (by intro _ _ _ h; exact h) (Or.inl ⟨by rfl, ?hy43⟩) (HS.out _ j19) ?rest43
        case hy43 =>
          intro wx hx
          obtain ⟨s1, s2, s3, s4⟩ := hx
          go_simp
          try with_reducible rfl
        try simp only [Act.put, List.setIfInBounds_toArray, List.set_cons_zero, List.set_cons_succ]
        refine WG_take (i := 49) (v := ?v44) (by simp only [List.getElem?_toArray, List.getElem?_cons_succ, List.getElem?_cons_zero]; try rfl) (by decide) (by kernel_rfl) (by kernel_rfl) (by intro _ _ _ h; exact h) (Or.inl ⟨by rfl, ?hy44⟩) (HS.out _ j19) ?rest44
        case hy44 =>
          intro wx hx
          obtain ⟨s1, s2, s3, s4⟩ := hx
          go_simp
          try with_reducible rfl
        try simp only [Act.put, List.setIfInBounds_toArray, List.set_cons_zero, List.set_cons_succ]
        refine WG_one 50 (by kernel_rfl) ⟨_, (by simp only [List.getElem?_toArray, List.getElem?_cons_succ, List.getElem?_cons_zero]; try rfl), by decide, fun K hK => ?_⟩
        go_simp
        refine (H6.out _ j19).mono ?_
        rintro e x20 ⟨rfl, bx20⟩
        have j20 : Below w13.heap.size w13 x20 := below_via j19 bx20
        dsimp only
        refine hK _ _ (HS.out _ j20) ?_
        clear hK K
        try simp only [Act.put, List.setIfInBounds_toArray, List.set_cons_zero, List.set_cons_succ]
        refine WG_take (i := 51) (v := ?v45) (by simp only [List.getElem?_toArray, List.getElem?_cons_succ, List.getElem?_cons_zero]; try rfl) (by decide) (by kernel_rfl) (by kernel_rfl) (by intro _ _ _ h; exact h) (Or.inl ⟨by rfl, ?hy45⟩) (HS.out _ j20) ?rest45
        case hy45 =>
          intro wx hx
          obtain ⟨s1, s2, s3, s4⟩ := hx
          go_simp
          try with_reducible rfl
        try simp only [Act.put, List.setIfInBounds_toArray, List.set_cons_zero, List.set_cons_succ]
        refine WG_take (i := 52) (v := ?v46) (by simp only [List.getElem?_toArray, List.getElem?_cons_succ, List.getElem?_cons_zero]; try rfl) (by decide) (by kernel_rfl) (by kernel_rfl) (by intro _ _ _ h; exact h) (Or.inl ⟨by rfl, ?hy46⟩) (HS.out _ j20) ?rest46
        case hy46 =>
          intro wx hx
          obtain ⟨s1, s2, s3, s4⟩ := hx
          go_simp
          try with_reducible rfl
        try simp only [Act.put, List.setIfInBounds_toArray, List.set_cons_zero, List.set_cons_succ]
        refine WG_done (by kernel_rfl) ⟨rfl, fx_exit1 (by rw [ha0]; kernel_rfl) (by kernel_rfl) (by kernel_rfl), j20⟩
    · clear j0
      intro a x hRel
      obtain ⟨hdf, ⟨us, h1, hlen, b0⟩, j0⟩ := hRel
      obtain ⟨u66, u67, u68, u69, u70, u71, u72, u73, u74, u75, u76, u77, u78, u79, u80, u81, u82, u83, u84, u85, u86, u87, u88, u89, u90, u91, u92, u93, u94, u95, u96, u97, u98, u99, u100, u101, u102, u103, u104, u105, u106, u107, u108, u109, u110, u111, u112, u113, u114, u115, u116, u117, u118, u119, u120, u121, u122, u123, u124, u125, u126, u127, u128, u129, u130, u131, u132, u133, u134, u135, u136, u137, u138, u139, u140, u141, u142, u143, u144, u145, u146, u147, u148, u149, u150, u151, u152, rfl⟩ := open87 hlen
      clear hlen
      simp only [List.getElem?_cons_succ, List.getElem?_cons_zero, Option.some.injEq] at b0
      subst b0
      rw [ha0] at h1
      simp only [List.take_succ_cons, List.take_zero, List.cons_append, List.nil_append] at h1
      obtain ⟨tm, df⟩ := a
      simp only at h1 hdf
      subst h1 hdf
      refine wpAny_stage (m := 53) (n := 62) (f := 9) (g := (26 + 0)) (S := fun wx : World => wx.cell? ⟨n + 1 + 1, 0, none⟩ = some (.string (bs [114])) ∧ wx.cell? ⟨n + 1 + 1, 1, none⟩ = some (.slice (some ⟨n, 0, none⟩) 2 2) ∧ wx.cell? ⟨n + 1 + 1, 2, none⟩ = some (.slice (some ⟨n + 1, 0, none⟩) 1 1) ∧ wx.cell? ⟨yb, 0, none⟩ = some (.string (bs xR.1))) (R := fun a wx => a.defers = [] ∧ (∃ us : List Value, a.tmps = (a0.tmps.toList.take 66 ++ us).toArray ∧ us.length = 87 ∧ us[53]? = some (.bool true) ∧ us[61]? = some (.bool true)) ∧ Below w13.heap.size w13 wx) (by decide) (by kernel_rfl) (by intro j hj; rw [show Region.ready .any _ _ = [62] from by kernel_rfl] at hj; simp at hj <;> omega) (by kernel_rfl) (by kernel_rfl) (by decide) ?_ ?_
      · skip
        refine WG_take (i := 53) (v := ?v47) (by simp only [List.getElem?_toArray, List.getElem?_cons_succ, List.getElem?_cons_zero]; try rfl) (by decide) (by kernel_rfl) (by kernel_rfl) (by intro _ _ _ h; exact h) (Or.inl ⟨by rfl, ?hy47⟩) (HS.out _ j0) ?rest47
        case hy47 =>
          intro wx hx
          obtain ⟨s1, s2, s3, s4⟩ := hx
          go_simp
          try with_reducible rfl
        try simp only [Act.put, List.setIfInBounds_toArray, List.set_cons_zero, List.set_cons_succ]
        refine WG_take (i := 54) (v := ?v48) (by simp only [List.getElem?_toArray, List.getElem?_cons_succ, List.getElem?_cons_zero]; try rfl) (by decide) (by kernel_rfl) (by kernel_rfl) (by intro _ _ _ h; exact h) (Or.inl ⟨by rfl, ?hy48⟩) (HS.out _ j0) ?rest48
        case hy48 =>
          intro wx hx
          obtain ⟨s1, s2, s3, s4⟩ := hx
          go_simp
          try with_reducible rfl
        try simp only [Act.put, List.setIfInBounds_toArray, List.set_cons_zero, List.set_cons_succ]
        refine WG_take (i := 58) (v := ?v49) (by simp only [List.getElem?_toArray, List.getElem?_cons_succ, List.getElem?_cons_zero]; try rfl) (by decide) (by kernel_rfl) (by kernel_rfl) (by intro _ _ _ h; exact h) (Or.inl ⟨by rfl, ?hy49⟩) (HS.out _ j0) ?rest49
        case hy49 =>
          intro wx hx
          obtain ⟨s1, s2, s3, s4⟩ := hx
          go_simp
          try with_reducible rfl
        try simp only [Act.put, List.setIfInBounds_toArray, List.set_cons_zero, List.set_cons_succ]
        refine WG_take (i := 59) (v := ?v50) (by simp only [List.getElem?_toArray, List.getElem?_cons_succ, List.getElem?_cons_zero]; try rfl) (by decide) (by kernel_rfl) (by kernel_rfl) (by intro _ _ _ h; exact h) (Or.inl ⟨by rfl, ?hy50⟩) (HS.out _ j0) ?rest50
        case hy50 =>
          intro wx hx
          obtain ⟨s1, s2, s3, s4⟩ := hx
          go_simp
          try with_reducible rfl
        try simp only [Act.put, List.setIfInBounds_toArray, List.set_cons_zero, List.set_cons_succ]
        refine WG_two 55 60 (by kernel_rfl) ⟨_, (by simp only [List.getElem?_toArray, List.getElem?_cons_succ, List.getElem?_cons_zero]; try rfl), by decide, fun K hK => ?_⟩ ⟨_, (by simp only [List.getElem?_toArray, List.getElem?_cons_succ, List.getElem?_cons_zero]; try rfl), by decide, fun K hK => ?_⟩
        · go_simp
          refine hK _ _ (HS.out _ (Bal j0)) ?_
          clear hK K
          try simp only [Act.put, List.setIfInBounds_toArray, List.set_cons_zero, List.set_cons_succ]
          refine WG_two 56 60 (by kernel_rfl) ⟨_, (by simp only [List.getElem?_toArray, List.getElem?_cons_succ, List.getElem?_cons_zero]; try rfl), by decide, fun K hK => ?_⟩ ⟨_, (by simp only [List.getElem?_toArray, List.getElem?_cons_succ, List.getElem?_cons_zero]; try rfl), by decide, fun K hK => ?_⟩
          · go_simp
            refine (H7.out (x.alloc (.cells #[.string ⟨#[97]⟩, .string ⟨#[98]⟩, .string ⟨#[97]⟩] 9)) (Bal (o := (.cells #[.string ⟨#[97]⟩, .string ⟨#[98]⟩, .string ⟨#[97]⟩] 9)) j0) x.heap.size (heap_alloc_new _ _)).mono ?_
            rintro e x22 ⟨o22, rfl, S22, _, b22⟩
            have j22 : Below w13.heap.size w13 x22 := below_via (Bal (o := (.cells #[.string ⟨#[97]⟩, .string ⟨#[98]⟩, .string ⟨#[97]⟩] 9)) j0) b22
            have S22 : RowC 3 sf x22 x22.heap.size o22 xR.2.1 := (by rw [← look1]; exact S22)
            obtain ⟨oA, oc, ho, _⟩ := S22.shape
            subst ho
            dsimp only
            refine hK _ _ (HS.out _ j22) ?_
            clear hK K
            try simp only [Act.put, List.setIfInBounds_toArray, List.set_cons_zero, List.set_cons_succ]
            refine WG_two 57 60 (by kernel_rfl) ⟨_, (by simp only [List.getElem?_toArray, List.getElem?_cons_succ, List.getElem?_cons_zero]; try rfl), by decide, fun K hK => ?_⟩ ⟨_, (by simp only [List.getElem?_toArray, List.getElem?_cons_succ, List.getElem?_cons_zero]; try rfl), by decide, fun K hK => ?_⟩
            · go_simp
              refine (lseens_any _ xR.2.1 x22 (S22) (by decide)).mono ?_
              rintro e x23 ⟨o23, rfl, S23, _, b23⟩
              have j23 : Below w13.heap.size w13 x23 := below_via j22 b23
              dsimp only
              refine hK _ _ (HS.out _ j23) ?_
              clear hK K
              try simp only [Act.put, List.setIfInBounds_toArray, List.set_cons_zero, List.set_cons_succ]
              refine WG_one 60 (by kernel_rfl) ⟨_, (by simp only [List.getElem?_toArray, List.getElem?_cons_succ, List.getElem?_cons_zero]; try rfl), by decide, fun K hK => ?_⟩
              go_simp
              refine hK _ _ (HS.out _ (Bal j23)) ?_
              clear hK K
              try simp only [Act.put, List.setIfInBounds_toArray, List.set_cons_zero, List.set_cons_succ]
              refine WG_one 61 (by kernel_rfl) ⟨_, (by simp only [List.getElem?_toArray, List.getElem?_cons_succ, List.getElem?_cons_zero]; try rfl), by decide, fun K hK => ?_⟩
              go_simp
              refine (seens_b (q := true) _ _ xR.2.1 xR.2.1 (x23.alloc (.cells #[.string ⟨#[97]⟩, .bool false, .string ⟨#[]⟩, .string ⟨#[98]⟩, .bool true, .string ⟨#[116]⟩] 72)) (S23.step ((Below.refl _ _).alloc (Nat.le_refl _) _)) (rowC_block (l := xR.2.1) sf_length (heap_alloc_new _ _) (lt_of_block (heap_alloc_new _ _)) (by decide)) (by decide) (by decide) (by simp)).mono ?_
              rintro e x24 ⟨rfl, nq2, rfl⟩
              have j24 := below_via (Bal (o := (.cells #[.string ⟨#[97]⟩, .bool false, .string ⟨#[]⟩, .string ⟨#[98]⟩, .bool true, .string ⟨#[116]⟩] 72)) j23) (below_of_drewN (a := (x23.alloc (.cells #[.string ⟨#[97]⟩, .bool false, .string ⟨#[]⟩, .string ⟨#[98]⟩, .bool true, .string ⟨#[116]⟩] 72))) (B := World.heap (x23.alloc (.cells #[.string ⟨#[97]⟩, .bool false, .string ⟨#[]⟩, .string ⟨#[98]⟩, .bool true, .string ⟨#[116]⟩] 72)) |>.size) nq2)
              dsimp only
              refine hK _ _ (HS.out _ j24) ?_
              clear hK K
              try simp only [Act.put, List.setIfInBounds_toArray, List.set_cons_zero, List.set_cons_succ]
              refine WG_done (by kernel_rfl) ⟨rfl, fx_exit2 (by rw [ha0]; kernel_rfl) (by kernel_rfl) (by kernel_rfl) (by kernel_rfl), j24⟩
            · go_simp
              refine hK _ _ (HS.out _ (Bal j22)) ?_
              clear hK K
              try simp only [Act.put, List.setIfInBounds_toArray, List.set_cons_zero, List.set_cons_succ]
              refine WG_one 57 (by kernel_rfl) ⟨_, (by simp only [List.getElem?_toArray, List.getElem?_cons_succ, List.getElem?_cons_zero]; try rfl), by decide, fun K hK => ?_⟩
              go_simp
              refine (lseens_any _ xR.2.1 (x22.alloc (.cells #[.string ⟨#[97]⟩, .bool false, .string ⟨#[]⟩, .string ⟨#[98]⟩, .bool true, .string ⟨#[116]⟩] 72)) (S22.step ((Below.refl _ _).alloc (Nat.le_refl _) _)) (by decide)).mono ?_
              rintro e x23 ⟨o23, rfl, S23, _, b23⟩
              have j23 : Below w13.heap.size w13 x23 := below_via (Bal (o := (.cells #[.string ⟨#[97]⟩, .bool false, .string ⟨#[]⟩, .string ⟨#[98]⟩, .bool true, .string ⟨#[116]⟩] 72)) j22) b23
              have gs := (b23.block _ (by simp)).trans (heap_alloc_new x22 (.cells #[.string ⟨#[97]⟩, .bool false, .string ⟨#[]⟩, .string ⟨#[98]⟩, .bool true, .string ⟨#[116]⟩] 72))
              dsimp only
              refine hK _ _ (HS.out _ j23) ?_
              clear hK K
              try simp only [Act.put, List.setIfInBounds_toArray, List.set_cons_zero, List.set_cons_succ]
              refine WG_one 61 (by kernel_rfl) ⟨_, (by simp only [List.getElem?_toArray, List.getElem?_cons_succ, List.getElem?_cons_zero]; try rfl), by decide, fun K hK => ?_⟩
              go_simp
              refine (seens_b (q := true) _ _ xR.2.1 xR.2.1 x23 (S23) (rowC_block (l := xR.2.1) sf_length (gs) (lt_of_block (gs)) (by decide)) (by decide) (by decide) (by simp)).mono ?_
              rintro e x24 ⟨rfl, nq2, rfl⟩
              have j24 := below_via j23 (below_of_drewN (a := x23) (B := World.heap x23 |>.size) nq2)
              dsimp only
              refine hK _ _ (HS.out _ j24) ?_
              clear hK K
              try simp only [Act.put, List.setIfInBounds_toArray, List.set_cons_zero, List.set_cons_succ]
              refine WG_done (by kernel_rfl) ⟨rfl, fx_exit2 (by rw [ha0]; kernel_rfl) (by kernel_rfl) (by kernel_rfl) (by kernel_rfl), j24⟩
          · go_simp
            refine hK _ _ (HS.out _ (Bal2 j0)) ?_
            clear hK K
            try simp only [Act.put, List.setIfInBounds_toArray, List.set_cons_zero, List.set_cons_succ]
            refine WG_one 56 (by kernel_rfl) ⟨_, (by simp only [List.getElem?_toArray, List.getElem?_cons_succ, List.getElem?_cons_zero]; try rfl), by decide, fun K hK => ?_⟩
            go_simp
            refine (H7.out ((x.alloc (.cells #[.string ⟨#[97]⟩, .string ⟨#[98]⟩, .string ⟨#[97]⟩] 9)).alloc (.cells #[.string ⟨#[97]⟩, .bool false, .string ⟨#[]⟩, .string ⟨#[98]⟩, .bool true, .string ⟨#[116]⟩] 72)) (Bal2 (o := (.cells #[.string ⟨#[97]⟩, .string ⟨#[98]⟩, .string ⟨#[97]⟩] 9)) (o' := (.cells #[.string ⟨#[97]⟩, .bool false, .string ⟨#[]⟩, .string ⟨#[98]⟩, .bool true, .string ⟨#[116]⟩] 72)) j0) x.heap.size (second_new x (.cells #[.string ⟨#[97]⟩, .string ⟨#[98]⟩, .string ⟨#[97]⟩] 9) (.cells #[.string ⟨#[97]⟩, .bool false, .string ⟨#[]⟩, .string ⟨#[98]⟩, .bool true, .string ⟨#[116]⟩] 72))).mono ?_
            rintro e x22 ⟨o22, rfl, S22, _, b22⟩
            have j22 : Below w13.heap.size w13 x22 := below_via (Bal2 (o := (.cells #[.string ⟨#[97]⟩, .string ⟨#[98]⟩, .string ⟨#[97]⟩] 9)) (o' := (.cells #[.string ⟨#[97]⟩, .bool false, .string ⟨#[]⟩, .string ⟨#[98]⟩, .bool true, .string ⟨#[116]⟩] 72)) j0) b22
            have gs : x22.heap[x.heap.size + 1]? = some (.cells #[.string ⟨#[97]⟩, .bool false, .string ⟨#[]⟩, .string ⟨#[98]⟩, .bool true, .string ⟨#[116]⟩] 72) := (b22.block _ (by simp)).trans (third_new x (.cells #[.string ⟨#[97]⟩, .string ⟨#[98]⟩, .string ⟨#[97]⟩] 9) (.cells #[.string ⟨#[97]⟩, .bool false, .string ⟨#[]⟩, .string ⟨#[98]⟩, .bool true, .string ⟨#[116]⟩] 72))
            have S22 : RowC 3 sf x22 x22.heap.size o22 xR.2.1 := (by rw [← look1]; exact S22)
            obtain ⟨oA, oc, ho, _⟩ := S22.shape
            subst ho
            dsimp only
            refine hK _ _ (HS.out _ j22) ?_
            clear hK K
            try simp only [Act.put, List.setIfInBounds_toArray, List.set_cons_zero, List.set_cons_succ]
            refine WG_one 57 (by kernel_rfl) ⟨_, (by simp only [List.getElem?_toArray, List.getElem?_cons_succ, List.getElem?_cons_zero]; try rfl), by decide, fun K hK => ?_⟩
            go_simp
            refine (lseens_any _ xR.2.1 x22 (S22) (by decide)).mono ?_
            rintro e x23 ⟨o23, rfl, S23, _, b23⟩
            have j23 : Below w13.heap.size w13 x23 := below_via j22 b23
            have gs := (b23.block _ (lt_of_block gs)).trans gs
            dsimp only
            refine hK _ _ (HS.out _ j23) ?_
            clear hK K
            try simp only [Act.put, List.setIfInBounds_toArray, List.set_cons_zero, List.set_cons_succ]
            refine WG_one 61 (by kernel_rfl) ⟨_, (by simp only [List.getElem?_toArray, List.getElem?_cons_succ, List.getElem?_cons_zero]; try rfl), by decide, fun K hK => ?_⟩
            go_simp
            refine (seens_b (q := true) _ _ xR.2.1 xR.2.1 x23 (S23) (rowC_block (l := xR.2.1) sf_length (gs) (lt_of_block (gs)) (by decide)) (by decide) (by decide) (by simp)).mono ?_
            rintro e x24 ⟨rfl, nq2, rfl⟩
            have j24 := below_via j23 (below_of_drewN (a := x23) (B := World.heap x23 |>.size) nq2)
            dsimp only
            refine hK _ _ (HS.out _ j24) ?_
            clear hK K
            try simp only [Act.put, List.setIfInBounds_toArray, List.set_cons_zero, List.set_cons_succ]
            refine WG_done (by kernel_rfl) ⟨rfl, fx_exit2 (by rw [ha0]; kernel_rfl) (by kernel_rfl) (by kernel_rfl) (by kernel_rfl), j24⟩
        · go_simp
          refine hK _ _ (HS.out _ (Bal j0)) ?_
          clear hK K
          try simp only [Act.put, List.setIfInBounds_toArray, List.set_cons_zero, List.set_cons_succ]
          refine WG_one 55 (by kernel_rfl) ⟨_, (by simp only [List.getElem?_toArray, List.getElem?_cons_succ, List.getElem?_cons_zero]; try rfl), by decide, fun K hK => ?_⟩
          go_simp
          refine hK _ _ (HS.out _ (Bal2 j0)) ?_
          clear hK K
          try simp only [Act.put, List.setIfInBounds_toArray, List.set_cons_zero, List.set_cons_succ]
          refine WG_one 56 (by kernel_rfl) ⟨_, (by simp only [List.getElem?_toArray, List.getElem?_cons_succ, List.getElem?_cons_zero]; try rfl), by decide, fun K hK => ?_⟩
          go_simp
          refine (H7.out ((x.alloc (.cells #[.string ⟨#[97]⟩, .bool false, .string ⟨#[]⟩, .string ⟨#[98]⟩, .bool true, .string ⟨#[116]⟩] 72)).alloc (.cells #[.string ⟨#[97]⟩, .string ⟨#[98]⟩, .string ⟨#[97]⟩] 9)) (Bal2 (o := (.cells #[.string ⟨#[97]⟩, .bool false, .string ⟨#[]⟩, .string ⟨#[98]⟩, .bool true, .string ⟨#[116]⟩] 72)) (o' := (.cells #[.string ⟨#[97]⟩, .string ⟨#[98]⟩, .string ⟨#[97]⟩] 9)) j0) (x.heap.size + 1) (third_new x (.cells #[.string ⟨#[97]⟩, .bool false, .string ⟨#[]⟩, .string ⟨#[98]⟩, .bool true, .string ⟨#[116]⟩] 72) (.cells #[.string ⟨#[97]⟩, .string ⟨#[98]⟩, .string ⟨#[97]⟩] 9))).mono ?_
          rintro e x22 ⟨o22, rfl, S22, _, b22⟩
          have j22 : Below w13.heap.size w13 x22 := below_via (Bal2 (o := (.cells #[.string ⟨#[97]⟩, .bool false, .string ⟨#[]⟩, .string ⟨#[98]⟩, .bool true, .string ⟨#[116]⟩] 72)) (o' := (.cells #[.string ⟨#[97]⟩, .string ⟨#[98]⟩, .string ⟨#[97]⟩] 9)) j0) b22
          have gs : x22.heap[x.heap.size]? = some (.cells #[.string ⟨#[97]⟩, .bool false, .string ⟨#[]⟩, .string ⟨#[98]⟩, .bool true, .string ⟨#[116]⟩] 72) := (b22.block _ (by simp; omega)).trans (second_new x (.cells #[.string ⟨#[97]⟩, .bool false, .string ⟨#[]⟩, .string ⟨#[98]⟩, .bool true, .string ⟨#[116]⟩] 72) (.cells #[.string ⟨#[97]⟩, .string ⟨#[98]⟩, .string ⟨#[97]⟩] 9))
          have S22 : RowC 3 sf x22 x22.heap.size o22 xR.2.1 := (by rw [← look1]; exact S22)
          obtain ⟨oA, oc, ho, _⟩ := S22.shape
          subst ho
          dsimp only
          refine hK _ _ (HS.out _ j22) ?_
          clear hK K
          try simp only [Act.put, List.setIfInBounds_toArray, List.set_cons_zero, List.set_cons_succ]
          refine WG_one 57 (by kernel_rfl) ⟨_, (by simp only [List.getElem?_toArray, List.getElem?_cons_succ, List.getElem?_cons_zero]; try rfl), by decide, fun K hK => ?_⟩
          go_simp
          refine (lseens_any _ xR.2.1 x22 (S22) (by decide)).mono ?_
          rintro e x23 ⟨o23, rfl, S23, _, b23⟩
          have j23 : Below w13.heap.size w13 x23 := below_via j22 b23
          have gs := (b23.block _ (lt_of_block gs)).trans gs
          dsimp only
          refine hK _ _ (HS.out _ j23) ?_
          clear hK K
          try simp only [Act.put, List.setIfInBounds_toArray, List.set_cons_zero, List.set_cons_succ]
          refine WG_one 61 (by kernel_rfl) ⟨_, (by simp only [List.getElem?_toArray, List.getElem?_cons_succ, List.getElem?_cons_zero]; try rfl), by decide, fun K hK => ?_⟩
          go_simp
          refine (seens_b (q := true) _ _ xR.2.1 xR.2.1 x23 (S23) (rowC_block (l := xR.2.1) sf_length (gs) (lt_of_block (gs)) (by decide)) (by decide) (by decide) (by simp)).mono ?_
          rintro e x24 ⟨rfl, nq2, rfl⟩
          have j24 := below_via j23 (below_of_drewN (a := x23) (B := World.heap x23 |>.size) nq2)
          dsimp only
          refine hK _ _ (HS.out _ j24) ?_
          clear hK K
          try simp only [Act.put, List.setIfInBounds_toArray, List.set_cons_zero, List.set_cons_succ]
          refine WG_done (by kernel_rfl) ⟨rfl, fx_exit2 (by rw [ha0]; kernel_rfl) (by kernel_rfl) (by kernel_rfl) (by kernel_rfl), j24⟩
      · clear j0
        intro a x hRel
        obtain ⟨hdf, ⟨us, h1, hlen, b0, b1⟩, j0⟩ := hRel
        obtain ⟨u66, u67, u68, u69, u70, u71, u72, u73, u74, u75, u76, u77, u78, u79, u80, u81, u82, u83, u84, u85, u86, u87, u88, u89, u90, u91, u92, u93, u94, u95, u96, u97, u98, u99, u100, u101, u102, u103, u104, u105, u106, u107, u108, u109, u110, u111, u112, u113, u114, u115, u116, u117, u118, u119, u120, u121, u122, u123, u124, u125, u126, u127, u128, u129, u130, u131, u132, u133, u134, u135, u136, u137, u138, u139, u140, u141, u142, u143, u144, u145, u146, u147, u148, u149, u150, u151, u152, rfl⟩ := open87 hlen
        clear hlen
        simp only [List.getElem?_cons_succ, List.getElem?_cons_zero, Option.some.injEq] at b0
        subst b0
        simp only [List.getElem?_cons_succ, List.getElem?_cons_zero, Option.some.injEq] at b1
        subst b1
        rw [ha0] at h1
        simp only [List.take_succ_cons, List.take_zero, List.cons_append, List.nil_append] at h1
        obtain ⟨tm, df⟩ := a
        simp only at h1 hdf
        subst h1 hdf
        refine wpAny_stage (m := 62) (n := 88) (f := 26) (g := 0) (S := fun wx : World => wx.cell? ⟨n + 1 + 1, 0, none⟩ = some (.string (bs [114])) ∧ wx.cell? ⟨n + 1 + 1, 1, none⟩ = some (.slice (some ⟨n, 0, none⟩) 2 2) ∧ wx.cell? ⟨n + 1 + 1, 2, none⟩ = some (.slice (some ⟨n + 1, 0, none⟩) 1 1) ∧ wx.cell? ⟨yb, 0, none⟩ = some (.string (bs xR.1))) (R := fun a wx => a.defers = [] ∧ a.tmps[0]? = some (.bool true) ∧ Below w13.heap.size w13 wx) (by decide) (by kernel_rfl) (by intro j hj; rw [show Region.ready .any _ _ = [] from by kernel_rfl] at hj; simp at hj <;> omega) (by kernel_rfl) (by kernel_rfl) (by decide) ?_ ?_
        · as_aux_lemma =>
            refine WG_take (i := 62) (v := ?v51) (by simp only [List.getElem?_toArray, List.getElem?_cons_succ, List.getElem?_cons_zero]; try rfl) (by decide) (by kernel_rfl) (by kernel_rfl) (by intro _ _ _ h; exact h) (Or.inl ⟨by rfl, ?hy51⟩) (HS.out _ j0) ?rest51
            case hy51 =>
              intro wx hx
              obtain ⟨s1, s2, s3, s4⟩ := hx
              go_simp
              try with_reducible rfl
            try simp only [Act.put, List.setIfInBounds_toArray, List.set_cons_zero, List.set_cons_succ]
            refine WG_take (i := 63) (v := ?v52) (by simp only [List.getElem?_toArray, List.getElem?_cons_succ, List.getElem?_cons_zero]; try rfl) (by decide) (by kernel_rfl) (by kernel_rfl) (by intro _ _ _ h; exact h) (Or.inl ⟨by rfl, ?hy52⟩) (HS.out _ j0) ?rest52
            case hy52 =>
              intro wx hx
              obtain ⟨s1, s2, s3, s4⟩ := hx
              go_simp
              try with_reducible rfl
            try simp only [Act.put, List.setIfInBounds_toArray, List.set_cons_zero, List.set_cons_succ]
            refine WG_take (i := 64) (v := ?v53) (by simp only [List.getElem?_toArray, List.getElem?_cons_succ, List.getElem?_cons_zero]; try rfl) (by decide) (by kernel_rfl) (by kernel_rfl) (by intro _ _ _ h; exact h) (Or.inl ⟨by rfl, ?hy53⟩) (HS.out _ j0) ?rest53
            case hy53 =>
              intro wx hx
              obtain ⟨s1, s2, s3, s4⟩ := hx
              go_simp
              try with_reducible rfl
            try simp only [Act.put, List.setIfInBounds_toArray, List.set_cons_zero, List.set_cons_succ]
            refine WG_take (i := 65) (v := ?v54) (by simp only [List.getElem?_toArray, List.getElem?_cons_succ, List.getElem?_cons_zero]; try rfl) (by decide) (by kernel_rfl) (by kernel_rfl) (by intro _ _ _ h; exact h) (Or.inl ⟨by rfl, ?hy54⟩) (HS.out _ j0) ?rest54
            case hy54 =>
              intro wx hx
              obtain ⟨s1, s2, s3, s4⟩ := hx
              go_simp
              try with_reducible rfl
            try simp only [Act.put, List.setIfInBounds_toArray, List.set_cons_zero, List.set_cons_succ]
            refine WG_take (i := 66) (v := ?v55) (by simp only [List.getElem?_toArray, List.getElem?_cons_succ, List.getElem?_cons_zero]; try rfl) (by decide) (by kernel_rfl) (by kernel_rfl) (by intro _ _ _ h; exact h) (Or.inl ⟨by rfl, ?hy55⟩) (HS.out _ j0) ?rest55
            case hy55 =>
              intro wx hx
              obtain ⟨s1, s2, s3, s4⟩ := hx
              go_simp
              try with_reducible rfl
            try simp only [Act.put, List.setIfInBounds_toArray, List.set_cons_zero, List.set_cons_succ]
            refine WG_take (i := 67) (v := ?v56) (by simp only [List.getElem?_toArray, List.getElem?_cons_succ, List.getElem?_cons_zero]; try rfl) (by decide) (by kernel_rfl) (by kernel_rfl) (by intro _ _ _ h; exact h) (Or.inl ⟨by rfl, ?hy56⟩) (HS.out _ j0) ?rest56
            case hy56 =>
              intro wx hx
              obtain ⟨s1, s2, s3, s4⟩ := hx
              go_simp
              try with_reducible rfl
            try simp only [Act.put, List.setIfInBounds_toArray, List.set_cons_zero, List.set_cons_succ]
            refine WG_take (i := 68) (v := ?v57) (by simp only [List.getElem?_toArray, List.getElem?_cons_succ, List.getElem?_cons_zero]; try rfl) (by decide) (by kernel_rfl) (by kernel_rfl) (by intro _ _ _ h; exact h) (Or.inl ⟨by rfl, ?hy57⟩) (HS.out _ j0) ?rest57
            case hy57 =>
              intro wx hx
              obtain ⟨s1, s2, s3, s4⟩ := hx
              go_simp
              try with_reducible rfl
            try simp only [Act.put, List.setIfInBounds_toArray, List.set_cons_zero, List.set_cons_succ]
            refine WG_take (i := 69) (v := ?v58) (by simp only [List.getElem?_toArray, List.getElem?_cons_succ, List.getElem?_cons_zero]; try rfl) (by decide) (by kernel_rfl) (by kernel_rfl) (by intro _ _ _ h; exact h) (Or.inl ⟨by rfl, ?hy58⟩) (HS.out _ j0) ?rest58
            case hy58 =>
              intro wx hx
              obtain ⟨s1, s2, s3, s4⟩ := hx
              go_simp
              try with_reducible rfl
            try simp only [Act.put, List.setIfInBounds_toArray, List.set_cons_zero, List.set_cons_succ]
            refine WG_take (i := 70) (v := ?v59) (by simp only [List.getElem?_toArray, List.getElem?_cons_succ, List.getElem?_cons_zero]; try rfl) (by decide) (by kernel_rfl) (by kernel_rfl) (by intro _ _ _ h; exact h) (Or.inl ⟨by rfl, ?hy59⟩) (HS.out _ j0) ?rest59
            case hy59 =>
              intro wx hx
              obtain ⟨s1, s2, s3, s4⟩ := hx
              go_simp
              try with_reducible rfl
            try simp only [Act.put, List.setIfInBounds_toArray, List.set_cons_zero, List.set_cons_succ]
            refine WG_take (i := 71) (v := ?v60) (by simp only [List.getElem?_toArray, List.getElem?_cons_succ, List.getElem?_cons_zero]; try rfl) (by decide) (by kernel_rfl) (by kernel_rfl) (by intro _ _ _ h; exact h) (Or.inl ⟨by rfl, ?hy60⟩) (HS.out _ j0) ?rest60
            case hy60 =>
              intro wx hx
              obtain ⟨s1, s2, s3, s4⟩ := hx
              go_simp
              try with_reducible rfl
            try simp only [Act.put, List.setIfInBounds_toArray, List.set_cons_zero, List.set_cons_succ]
            refine WG_take (i := 72) (v := ?v61) (by simp only [List.getElem?_toArray, List.getElem?_cons_succ, List.getElem?_cons_zero]; try rfl) (by decide) (by kernel_rfl) (by kernel_rfl) (by intro _ _ _ h; exact h) (Or.inl ⟨by rfl, ?hy61⟩) (HS.out _ j0) ?rest61
            case hy61 =>
              intro wx hx
              obtain ⟨s1, s2, s3, s4⟩ := hx
              go_simp
              try with_reducible rfl
            try simp only [Act.put, List.setIfInBounds_toArray, List.set_cons_zero, List.set_cons_succ]
            refine WG_take (i := 73) (v := ?v62) (by simp only [List.getElem?_toArray, List.getElem?_cons_succ, List.getElem?_cons_zero]; try rfl) (by decide) (by kernel_rfl) (by kernel_rfl) (by intro _ _ _ h; exact h) (Or.inl ⟨by rfl, ?hy62⟩) (HS.out _ j0) ?rest62
            case hy62 =>
              intro wx hx
              obtain ⟨s1, s2, s3, s4⟩ := hx
              go_simp
              try with_reducible rfl
            try simp only [Act.put, List.setIfInBounds_toArray, List.set_cons_zero, List.set_cons_succ]
            refine WG_take (i := 74) (v := ?v63) (by simp only [List.getElem?_toArray, List.getElem?_cons_succ, List.getElem?_cons_zero]; try rfl) (by decide) (by kernel_rfl) (by kernel_rfl) (by intro _ _ _ h; exact h) (Or.inl ⟨by rfl, ?hy63⟩) (HS.out _ j0) ?rest63
            case hy63 =>
              intro wx hx
              obtain ⟨s1, s2, s3, s4⟩ := hx
              go_simp
              try with_reducible rfl
            try simp only [Act.put, List.setIfInBounds_toArray, List.set_cons_zero, List.set_cons_succ]
            refine WG_take (i := 75) (v := ?v64) (by simp only [List.getElem?_toArray, List.getElem?_cons_succ, List.getElem?_cons_zero]; try rfl) (by decide) (by kernel_rfl) (by kernel_rfl) (by intro _ _ _ h; exact h) (Or.inl ⟨by rfl, ?hy64⟩) (HS.out _ j0) ?rest64
            case hy64 =>
              intro wx hx
              obtain ⟨s1, s2, s3, s4⟩ := hx
              go_simp
              try with_reducible rfl
            try simp only [Act.put, List.setIfInBounds_toArray, List.set_cons_zero, List.set_cons_succ]
            refine WG_take (i := 76) (v := ?v65) (by simp only [List.getElem?_toArray, List.getElem?_cons_succ, List.getElem?_cons_zero]; try rfl) (by decide) (by kernel_rfl) (by kernel_rfl) (by intro _ _ _ h; exact h) (Or.inl ⟨by rfl, ?hy65⟩) (HS.out _ j0) ?rest65
            case hy65 =>
              intro wx hx
              obtain ⟨s1, s2, s3, s4⟩ := hx
              go_simp
              try with_reducible rfl
            try simp only [Act.put, List.setIfInBounds_toArray, List.set_cons_zero, List.set_cons_succ]
            refine WG_take (i := 77) (v := ?v66) (by simp only [List.getElem?_toArray, List.getElem?_cons_succ, List.getElem?_cons_zero]; try rfl) (by decide) (by kernel_rfl) (by kernel_rfl) (by intro _ _ _ h; exact h) (Or.inl ⟨by rfl, ?hy66⟩) (HS.out _ j0) ?rest66
            case hy66 =>
              intro wx hx
              obtain ⟨s1, s2, s3, s4⟩ := hx
              go_simp
              try with_reducible rfl
            try simp only [Act.put, List.setIfInBounds_toArray, List.set_cons_zero, List.set_cons_succ]
            refine WG_take (i := 78) (v := ?v67) (by simp only [List.getElem?_toArray, List.getElem?_cons_succ, List.getElem?_cons_zero]; try rfl) (by decide) (by kernel_rfl) (by kernel_rfl) (by intro _ _ _ h; exact h) (Or.inl ⟨by rfl, ?hy67⟩) (HS.out _ j0) ?rest67
            case hy67 =>
              intro wx hx
              obtain ⟨s1, s2, s3, s4⟩ := hx
              go_simp
              try with_reducible rfl
            try simp only [Act.put, List.setIfInBounds_toArray, List.set_cons_zero, List.set_cons_succ]
            refine WG_take (i := 79) (v := ?v68) (by simp only [List.getElem?_toArray, List.getElem?_cons_succ, List.getElem?_cons_zero]; try rfl) (by decide) (by kernel_rfl) (by kernel_rfl) (by intro _ _ _ h; exact h) (Or.inl ⟨by rfl, ?hy68⟩) (HS.out _ j0) ?rest68
            case hy68 =>
              intro wx hx
              obtain ⟨s1, s2, s3, s4⟩ := hx
              go_simp
              try with_reducible rfl
            try simp only [Act.put, List.setIfInBounds_toArray, List.set_cons_zero, List.set_cons_succ]
            refine WG_take (i := 80) (v := ?v69) (by simp only [List.getElem?_toArray, List.getElem?_cons_succ, List.getElem?_cons_zero]; try rfl) (by decide) (by kernel_rfl) (by kernel_rfl) (by intro _ _ _ h; exact h) (Or.inl ⟨by rfl, ?hy69⟩) (HS.out _ j0) ?rest69
            case hy69 =>
              intro wx hx
              obtain ⟨s1, s2, s3, s4⟩ := hx
              go_simp
              try with_reducible rfl
            try simp only [Act.put, List.setIfInBounds_toArray, List.set_cons_zero, List.set_cons_succ]
            refine WG_take (i := 81) (v := ?v70) (by simp only [List.getElem?_toArray, List.getElem?_cons_succ, List.getElem?_cons_zero]; try rfl) (by decide) (by kernel_rfl) (by kernel_rfl) (by intro _ _ _ h; exact h) (Or.inl ⟨by rfl, ?hy70⟩) (HS.out _ j0) ?rest70
            case hy70 =>
              intro wx hx
              obtain ⟨s1, s2, s3, s4⟩ := hx
              go_simp
              try with_reducible rfl
            try simp only [Act.put, List.setIfInBounds_toArray, List.set_cons_zero, List.set_cons_succ]
            refine WG_take (i := 82) (v := ?v71) (by simp only [List.getElem?_toArray, List.getElem?_cons_succ, List.getElem?_cons_zero]; try rfl) (by decide) (by kernel_rfl) (by kernel_rfl) (by intro _ _ _ h; exact h) (Or.inl ⟨by rfl, ?hy71⟩) (HS.out _ j0) ?rest71
            case hy71 =>
              intro wx hx
              obtain ⟨s1, s2, s3, s4⟩ := hx
              go_simp
              try with_reducible rfl
            try simp only [Act.put, List.setIfInBounds_toArray, List.set_cons_zero, List.set_cons_succ]
            refine WG_one 83 (by kernel_rfl) ⟨_, (by simp only [List.getElem?_toArray, List.getElem?_cons_succ, List.getElem?_cons_zero]; try rfl), by decide, fun K hK => ?_⟩
            go_simp
            refine (H9.out _ j0).mono ?_
            rintro e x25 ⟨vq, rfl, P25, b25⟩
            have j25 : Below w13.heap.size w13 x25 := below_via j0 b25
            obtain ⟨qA, qc, hq, _⟩ := P25.shape
            rw [put2] at hq
            subst hq
            dsimp only
            refine hK _ _ (HS.out _ j25) ?_
            clear hK K
            try simp only [Act.put, List.setIfInBounds_toArray, List.set_cons_zero, List.set_cons_succ]
            refine WG_take (i := 84) (v := ?v72) (by simp only [List.getElem?_toArray, List.getElem?_cons_succ, List.getElem?_cons_zero]; try rfl) (by decide) (by kernel_rfl) (by kernel_rfl) (by intro _ _ _ h; exact h) (Or.inl ⟨by rfl, ?hy72⟩) (HS.out _ j25) ?rest72
            case hy72 =>
              intro wx hx
              obtain ⟨s1, s2, s3, s4⟩ := hx
              go_simp
              try with_reducible rfl
            try simp only [Act.put, List.setIfInBounds_toArray, List.set_cons_zero, List.set_cons_succ]
            refine WG_take (i := 85) (v := ?v73) (by simp only [List.getElem?_toArray, List.getElem?_cons_succ, List.getElem?_cons_zero]; try rfl) (by decide) (by kernel_rfl) (by kernel_rfl) (by intro _ _ _ h; exact h) (Or.inl ⟨by rfl, ?hy73⟩) (HS.out _ j25) ?rest73
            case hy73 =>
              intro wx hx
              obtain ⟨s1, s2, s3, s4⟩ := hx
              go_simp
              try with_reducible rfl
            try simp only [Act.put, List.setIfInBounds_toArray, List.set_cons_zero, List.set_cons_succ]
            refine WG_take (i := 86) (v := ?v74) (by simp only [List.getElem?_toArray, List.getElem?_cons_succ, List.getElem?_cons_zero]; try rfl) (by decide) (by kernel_rfl) (by kernel_rfl) (by intro _ _ _ h; exact h) (Or.inl ⟨by rfl, ?hy74⟩) (HS.out _ j25) ?rest74
            case hy74 =>
              intro wx hx
              obtain ⟨s1, s2, s3, s4⟩ := hx
              go_simp
              try with_reducible rfl
            try simp only [Act.put, List.setIfInBounds_toArray, List.set_cons_zero, List.set_cons_succ]
            refine WG_take (i := 87) (v := ?v75) (by simp only [List.getElem?_toArray, List.getElem?_cons_succ, List.getElem?_cons_zero]; try rfl) (by decide) (by kernel_rfl) (by kernel_rfl) (by intro _ _ _ h; exact h) (Or.inl ⟨by rfl, ?hy75⟩) (HS.out _ j25) ?rest75
            case hy75 =>
              intro wx hx
              obtain ⟨s1, s2, s3, s4⟩ := hx
              go_simp
              try with_reducible rfl
            try simp only [Act.put, List.setIfInBounds_toArray, List.set_cons_zero]
            refine WG_done (by kernel_rfl) ⟨rfl, rfl, j25⟩
        · intro a x9 hRel
          obtain ⟨hdf, ht0, j9⟩ := hRel
          refine ⟨by kernel_rfl, ?_⟩
          exact (by assumption : ∀ (a : Act) (w : World), Code.wp Tryz.prog Code.ret _ a w → _) _ _ (fx_end HB13.out hdf ht0 j9)
end Go.Proofs.YtiogmegdkfnkkaaGreatDoor
