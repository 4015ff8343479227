/- stetlaw20.Cut. -/
import Derived.Test.YtiogmegdkfnkkaaGreatDoorQ6
import Derived.Test.YtiogmegdkfnkkaaGreatDoorRcTake
import Derived.Test.YtiogmegdkfnkkaaGreatDoorQ11
import Derived.Test.YtiogmegdkfnkkaaGreatDoorExt
import Derived.Test.YtiogmegdkfnkkaaGreatDoorQ5
namespace Go.Proofs.YtiogmegdkfnkkaaGreatDoor
open Go.RowKit Tx

def cutS (r : Rc.Seen) : Rc.Seen := (r.1.take 120, r.2.1, r.2.2.take 120)
def cutF (f : Wr.F) : Wr.F := (f.1.take 120, f.2.take 120)
def cutX (x : Rc.Rec) : Rc.Rec := (x.1.take 120, (x.2.1.take 8).map cutS, (x.2.2.take 6).map cutF)
def cutL (l : List Rc.Rec) (n : Nat) : List Rc.Rec := (l.take n).map cutX
/-- 'out = append(out, x)', x in a block that lies there, in whatever world. -/
theorem wpList_appH {P : Program} {w : World} {ops : Array Oper} {rest : List Oper} {o : Oper} {a : Act} {Q : Exit → Act → World → Prop} (hgd : o.guard = none) (s x : Operand) (t : TypeId)
    (ho : o.op = .call { callee := .builtin .append, args := #[s, x], argTypes := #[t, t] })
    (base : Nat) (e : TypeId) (i : TypeInfo) (z : Value) (size bytes : Nat) (ht : P.underlying t = some (.slice e)) (hi : P.info? e = some i) (hz : i.zero = some z)
    (hsize : i.size = size) (hby : i.bytes = bytes) (hzs : z.cells.size = size) (hsz : 0 < size)
    (v : Value) (n : Nat) (xs : List Value) (us : List Value) (hus : us.length = size) (hone : ∀ y ∈ us, y.oneCell' = true) (hs : a.eval s = v) (g : Nat) (hx : a.eval x = .slice (some ⟨g, 0, none⟩) 1 1)
    (hg : w.heap[g]? = some (.cells us.toArray e (0, 0)))
    (hown : w.ownsRow base e size v n xs) (hb : base ≤ w.heap.size)
    (h63 : n + 1 ≤ maxLen) (hbytes : (n + 1) * bytes ≤ 140737488355328)
    (h : ∀ v' w', w'.ownsRow base e size v' (n + 1) (xs ++ us) → w.grownBy w' v.ownBlock → wpList P ops Q rest (a.put o.dst v') w') :
    wpList P ops Q (o :: rest) a w := by
  have hnews : ∀ j y, us[j]? = some y → w.cell? ((⟨g, 0, none⟩ : Addr).add j) = some y := by
    intro j y hj
    rw [Addr.add_lit]
    simp only [Nat.zero_add]
    rw [cell_of_row _ g j _ e (0, 0) hg]
    simpa using hj
  obtain ⟨v', w', hr, h2, h3, _⟩ := run_append_own (P := P) w base t o.type e i z size bytes ht hi hz hsize hby hzs hsz v n xs hown ⟨g, 0, none⟩ 1 1 us (by omega) hnews hone h63 hbytes hb
  refine wpList_plain hgd fun _ hK => ?_
  unfold Oper.wp execOp
  simp only [ho, resolve, invoke, builtin, Sem.run_bind, Sem.run_pure, Result.andThen_ok, List.map_toArray, List.map_cons, List.map_nil, hs, hx, hr]
  exact hK _ _ (h v' w' h2 h3)
theorem wpList_seenH {w : World} {ops : Array Oper} {rest : List Oper} {o : Oper} {a : Act} {Q : Exit → Act → World → Prop} (hgd : o.guard = none) (s x : Operand)
    (ho : o.op = .call { callee := .builtin .append, args := #[s, x], argTypes := #[39, 39] })
    (base : Nat) (v : Value) (l : List Rc.Seen) (u : Rc.Seen) (hs : a.eval s = v) (g : Nat) (hx : a.eval x = .slice (some ⟨g, 0, none⟩) 1 1)
    (hg : w.heap[g]? = some (.cells #[.string (bs u.1), .bool u.2.1, .string (bs u.2.2)] 44 (0, 0)))
    (hown : OwnC 44 3 sf base w v l) (hb : base ≤ w.heap.size) (hl : l.length < 1000000)
    (h : ∀ v' w', OwnC 44 3 sf base w' v' (l ++ [u]) → Below base w w' → wpList Tryz.prog ops Q rest (a.put o.dst v') w') : wpList Tryz.prog ops Q (o :: rest) a w := by
  obtain ⟨i0, hi0, hz0, hz1, hz2⟩ := info_parts pnInfo
  refine wpList_appH hgd s x 39 ho base 44 i0 _ 3 40 Tryz.underlying39 hi0 hz0 hz1 hz2 rfl (by decide) v l.length (l.flatMap sf) (sf u) rfl (by simp [Value.oneCell']) hs g hx hg hown hb (by simp only [maxLen]; omega) (by omega) ?_
  intro v' w' h1 h2
  exact h v' w' (by simpa [OwnC] using h1) (grown_below hown hb h2)
theorem wpList_fileH {w : World} {ops : Array Oper} {rest : List Oper} {o : Oper} {a : Act} {Q : Exit → Act → World → Prop} (hgd : o.guard = none) (s x : Operand)
    (ho : o.op = .call { callee := .builtin .append, args := #[s, x], argTypes := #[40, 40] })
    (base : Nat) (v : Value) (l : List Wr.F) (u : Wr.F) (hs : a.eval s = v) (g : Nat) (hx : a.eval x = .slice (some ⟨g, 0, none⟩) 1 1)
    (hg : w.heap[g]? = some (.cells #[.string (bs u.1), .string (bs u.2)] 46 (0, 0)))
    (hown : OwnC 46 2 ff base w v l) (hb : base ≤ w.heap.size) (hl : l.length < 1000000)
    (h : ∀ v' w', OwnC 46 2 ff base w' v' (l ++ [u]) → Below base w w' → wpList Tryz.prog ops Q rest (a.put o.dst v') w') : wpList Tryz.prog ops Q (o :: rest) a w := by
  obtain ⟨i0, hi0, hz0, hz1, hz2⟩ := info_parts fileInfo
  refine wpList_appH hgd s x 40 ho base 46 i0 _ 2 32 Tryz.underlying40 hi0 hz0 hz1 hz2 rfl (by decide) v l.length (l.flatMap ff) (ff u) rfl (by simp [Value.oneCell']) hs g hx hg hown hb (by simp only [maxLen]; omega) (by omega) ?_
  intro v' w' h1 h2
  exact h v' w' (by simpa [OwnC] using h1) (grown_below hown hb h2)
theorem keepX {X : Nat} {V W : World} (h : V.grownBy W (some X)) (hs : V.heap.size = X + 1) : Below X V W := ⟨h.os, h.tape, h.output, h.size, fun k hk => h.block k (by omega) (fun e => by injection e with e; omega)⟩
set_option maxRecDepth 100000 in
set_option maxHeartbeats 16000000 in
theorem cut_any (v : Value) (l : List Rc.Rec) (most : Nat) (w : World) (hr : RowR w w.heap.size v l) (hn : most ≤ 100) (hok : ∀ x ∈ l, RecOk x) :
    Calls Tryz.prog 4 #[v, .int .i64 most] w fun e w' => ∃ o, e = .returned o ∧ RowR w' w'.heap.size o (cutL l most) ∧ Below w.heap.size w w' := by
  obtain ⟨A, cap, rfl, c1, c2, c3⟩ := hr.shape
  have HC := Lib.hid c3
  have HOK := Lib.hid hok
  have hmade := OwnR.made 42 w.heap.size w (Nat.le_refl _)
  clear c3 hr hok
  go_enter Tryz.func4, Tryz.ntmps4
  go_wp2_with fail
  go_loopw [5, 6] (fun o i wr => ∃ k : Nat, k ≤ l.length ∧ k ≤ most ∧ i = .int .i64 k ∧ OwnR 42 w.heap.size wr o ((l.take k).map cutX) ∧ Below w.heap.size w wr) (fun _ i _ => most - (RowKit.intOf i).toNat)
  case atStart => exact ⟨0, Nat.zero_le _, Nat.zero_le _, rfl, hmade, (Below.refl _ _).alloc (Nat.le_refl _) _⟩
  case round =>
    clear hmade
    obtain ⟨k, hk, hkm, rfl, hown, hbel⟩ := hrel
    have hle := hbel.size
    by_cases hlt : k < l.length
    · have i1 : (k : Int) < (l.length : Int) := by omega
      have i0 : (0 : Int) ≤ (k : Int) := by omega
      by_cases hkl : k < most
      · have i2 : (k : Int) < (most : Int) := by omega
        obtain ⟨b, off, rfl, hbl, ⟨x0, r1, r2⟩, ⟨j1, j2, j3⟩, hrec⟩ := HC.out k hlt
        have HT : Hid ((l.take (k + 1)).map cutX = (l.take k).map cutX ++ [cutX l[k]]) := Lib.hid (by rw [List.take_succ_eq_append_getElem hlt, List.map_append]; rfl)
        have hxo := HOK.out _ (List.getElem_mem hlt)
        generalize l[k] = x at *
        obtain ⟨B1, p1, B2, p2, hr3⟩ := hrec.rows
        injection hr3 with e1 e2
        injection e2 with e2 e3
        subst e1 e2 e3
        simp only at j1 j2 j3
        have k1 := (hbel.cell (p := ⟨b, off + k * 3, none⟩) hbl).trans j1
        have k2 := (hbel.cell (p := ⟨b, off + k * 3 + 1, none⟩) hbl).trans j2
        have k3 := (hbel.cell (p := ⟨b, off + k * 3 + 2, none⟩) hbl).trans j3
        obtain ⟨_, _, e1, _, z1, h3⟩ := hrec.reads.shape
        obtain ⟨_, _, e2, _, z2, h4⟩ := hrec.writes.shape
        simp only at e1 e2
        injection e1 with e1 _ e1'
        injection e2 with e2 _ e2'
        subst e1 e1' e2 e2'
        have H3 := Lib.hid h3
        have H4 := Lib.hid h4
        obtain ⟨ok1, ok2, ok3⟩ := hxo
        simp only [maxLen] at ok1
        have OK2 := Lib.hid ok2
        have OK3 := Lib.hid ok3
        clear h3 h4 hrec j1 j2 j3 ok2 ok3
        have hx1 := xext_minr x.1 120
        simp only [show ((120 : Nat) : Int) = 120 from rfl] at hx1
        have hz1 := bs_size x.1
        have l1 : (0 : Int) ≤ min ((bs x.1).size : Int) 120 := by omega
        have l2 : min ((bs x.1).size : Int) 120 ≤ ((bs x.1).size : Int) := by omega
        rw [hz1] at hx1 l1 l2
        have hol : ((l.take k).map cutX).length < 1000000 := by simp; omega
        have HO := Lib.hid hown
        clear hown
        obtain ⟨X, hX⟩ : ∃ X, X = wr.heap.size := ⟨_, rfl⟩
        go_upto_region 5 with fail
        go_cut [7] (fun p wx => p = .pointer (some ⟨X, 0, none⟩) ∧ wx.heap.size = X + 1 ∧ Hid (Below X wr wx) ∧ wx.heap[X]? = some (.cells #[.string (bs (x.1.take 120)), .slice none 0 0, .slice none 0 0] 42 (0, 0)))
        case first =>
          go_region_held3 (fun wx => wx.cell? ⟨b, off + k * 3, none⟩ = some (.string (bs x.1))) (go_keep) (fail)
          all_goals go_wp2_with fail
          all_goals go_meet
          all_goals exact ⟨by rw [hX], by rw [hX]; simp, Lib.hid (by rw [hX]; exact ((Below.refl _ _).alloc (Nat.le_refl _) _).drew), by rw [hX]; exact heap_alloc_new _ _⟩
        case rest =>
          obtain ⟨rfl, hs1, hb1, hX1⟩ := hcut
          clear hx1 hz1 l1 l2
          obtain ⟨U, rfl⟩ : ∃ U, U = wc := ⟨_, rfl⟩
          have HLT : Hid (∀ b, Value.ownBlock u5 = some b → b < X) := Lib.hid fun b hb => by
            obtain ⟨rs, o1, _⟩ := HO.out
            rw [hX]; exact (o1.lt b hb).2
          have HKB := Lib.hid (fun wz (h : U.grownBy wz (some X)) => (show Below X wr wz from hb1.out.trans (keepX h hs1)))
          have HBW := Lib.hid (fun wz (h : U.grownBy wz (some X)) => (show Below w.heap.size w wz from hbel.trans ((HKB.out wz h).mono (by rw [hX]; exact hle))))
          have HOW := Lib.hid (fun wz (h : U.grownBy wz (some X)) => HO.out.below (by rw [← hX]; exact HKB.out wz h))
          have HR1 := Lib.hid (fun wz (h : U.grownBy wz (some X)) => (show wz.cell? ⟨b, off + k * 3 + 1, none⟩ = some (.slice B1 x.2.1.length p1) ∧ wz.cell? ⟨b, off + k * 3 + 2, none⟩ = some (.slice B2 x.2.2.length p2) from
            ⟨((HKB.out wz h).cell (p := ⟨b, off + k * 3 + 1, none⟩) (by show b < X; omega)).trans k2, ((HKB.out wz h).cell (p := ⟨b, off + k * 3 + 2, none⟩) (by show b < X; omega)).trans k3⟩))
          have hXw : w.heap.size ≤ X := by omega
          have hg0 : U.grownBy U (some X) := ⟨rfl, rfl, rfl, Nat.le_refl _, fun _ _ _ => rfl⟩
          clear k1 k2 k3 hbel hle hX
          go_upto_block 2 with fail
          go_cut [7] (fun p wx => p = .pointer (some ⟨X, 0, none⟩) ∧ ∃ rv, wx.heap[X]? = some (.cells #[.string (bs (x.1.take 120)), rv, .slice none 0 0] 42 (0, 0)) ∧ OwnC 44 3 sf U.heap.size wx rv ((x.2.1.take 8).map cutS) ∧ U.grownBy wx (some X))
          case first =>
            go_wp2_with fail
            go_loopw [8] (fun j wr => ∃ (m : Nat) (rv : Value), m ≤ x.2.1.length ∧ m ≤ 8 ∧ j = .int .i64 m ∧ wr.heap[X]? = some (.cells #[.string (bs (x.1.take 120)), rv, .slice none 0 0] 42 (0, 0)) ∧ OwnC 44 3 sf U.heap.size wr rv ((x.2.1.take m).map cutS) ∧ U.grownBy wr (some X)) (fun j _ => x.2.1.length - (RowKit.intOf j).toNat)
            case atStart => exact ⟨0, _, Nat.zero_le _, Nat.zero_le _, rfl, hX1, OwnC.nil _ _ _ _ _, hg0⟩
            case round =>
              clear hX1 hg0
              obtain ⟨m, rv, hm, hm8, rfl, hXr, hown, hgr⟩ := hrel
              obtain ⟨k2, k3⟩ := HR1.out wr hgr
              have hbw := HBW.out wr hgr
              by_cases hml : m < x.2.1.length
              · have n1 : (m : Int) < (x.2.1.length : Int) := by omega
                have n0 : (0 : Int) ≤ (m : Int) := by omega
                by_cases hm88 : m < 8
                · have n2 : (m : Int) < 8 := by omega
                  obtain ⟨g, o, rfl, hgl, hcc⟩ := H3.out (by intro e; rw [e] at hml; simp at hml)
                  obtain ⟨y1, y2, y3⟩ := sf_cells (fun i u hu => (hbw.cell (p := ⟨g, o + m * 3 + i, none⟩) hgl).trans (hcc m hml i u hu))
                  have HT2 : Hid ((x.2.1.take (m + 1)).map cutS = (x.2.1.take m).map cutS ++ [cutS x.2.1[m]]) := Lib.hid (by rw [List.take_succ_eq_append_getElem hml, List.map_append]; rfl)
                  have hso := OK2.out _ (List.getElem_mem hml)
                  clear hcc
                  generalize x.2.1[m] = r at *
                  obtain ⟨q1, q2, q3⟩ := r
                  obtain ⟨so1, so2⟩ := hso
                  simp only [maxLen] at so1 so2
                  simp only at y1 y2 y3
                  have e1 := xext_minr q1 120
                  have e3 := xext_minr q3 120
                  simp only [show ((120 : Nat) : Int) = 120 from rfl] at e1 e3
                  have z1 := bs_size q1
                  have z3 := bs_size q3
                  have f1 : (0 : Int) ≤ min ((bs q1).size : Int) 120 := by omega
                  have f2 : min ((bs q1).size : Int) 120 ≤ ((bs q1).size : Int) := by omega
                  have f3 : (0 : Int) ≤ min ((bs q3).size : Int) 120 := by omega
                  have f4 : min ((bs q3).size : Int) 120 ≤ ((bs q3).size : Int) := by omega
                  rw [z1] at e1 f1 f2
                  rw [z3] at e3 f3 f4
                  have HO2 := Lib.hid hown
                  have hol2 : ((x.2.1.take m).map cutS).length < 1000000 := by simp; omega
                  obtain ⟨rA, rl, rc, hrv⟩ : ∃ A n c, rv = .slice A n c := by
                    obtain ⟨A, c, h, _⟩ := (hown.rowC sf_length).shape
                    exact ⟨A, _, c, h⟩
                  subst hrv
                  have hgs := hgr.size
                  obtain ⟨V, hV⟩ : ∃ V, V = wr.alloc (.cells #[.string (bs q1), .bool q2, .string (bs q3)] 44) := ⟨_, rfl⟩
                  have hVn : V.heap[wr.heap.size]? = some (.cells #[.string (bs q1), .bool q2, .string (bs q3)] 44 (0, 0)) := by rw [hV]; exact heap_alloc_new _ _
                  have hVb : Below wr.heap.size wr V := by rw [hV]; exact (Below.refl _ _).alloc (Nat.le_refl _) _
                  have hXl : X < wr.heap.size := by omega
                  have hXV := (hVb.block X hXl).trans hXr
                  have hVs : V.heap.size = wr.heap.size + 1 := by rw [hV]; simp
                  go_upto_region 10 with fail
                  rw [← hV]
                  obtain ⟨v1, v2, v3, _, _, _⟩ := cells3 hVn
                  obtain ⟨_, v4, _, _, _, _⟩ := cells3 hXV
                  have HXV := Lib.hid hXV
                  have HVB := Lib.hid hVb
                  have HVA := Lib.hid (fun o => (Below.refl V.heap.size V).alloc (Nat.le_refl _) o)
                  clear hV hVn hXr hown hXV hVb y1 y2 y3 k2 k3
                  refine wp_region_headS 20 (fun wz => wz.cell? ⟨wr.heap.size, 0, none⟩ = some (.string (bs q1)) ∧ wz.cell? ⟨wr.heap.size, 1, none⟩ = some (.bool q2) ∧ wz.cell? ⟨wr.heap.size, 2, none⟩ = some (.string (bs q3)) ∧ wz.cell? ⟨X, 1, none⟩ = some (.slice rA rl rc)) (by kernel_rfl) (by kernel_rfl) ?_
                  have hS0 : (fun wz : World => wz.cell? ⟨wr.heap.size, 0, none⟩ = some (.string (bs q1)) ∧ wz.cell? ⟨wr.heap.size, 1, none⟩ = some (.bool q2) ∧ wz.cell? ⟨wr.heap.size, 2, none⟩ = some (.string (bs q3)) ∧ wz.cell? ⟨X, 1, none⟩ = some (.slice rA rl rc)) V.drew := ⟨v1, v2, v3, v4⟩
                  refine WS_take (i := 0) (v := ?v0) (by rfl) (by decide) (by kernel_rfl) (by kernel_rfl) (by intro _ _ _ h; exact h) (Or.inl ⟨by rfl, ?hy0⟩) hS0 ?rest0
                  case hy0 =>
                    intro wx hx
                    obtain ⟨s1, s2, s3, s4⟩ := hx
                    go_simp
                    try with_reducible rfl
                  simp only [Act.put, List.setIfInBounds_toArray]
                  refine WS_take (i := 1) (v := ?v1) (by rfl) (by decide) (by kernel_rfl) (by kernel_rfl) (by intro _ _ _ h; exact h) (Or.inl ⟨by rfl, ?hy1⟩) hS0 ?rest1
                  case hy1 =>
                    intro wx hx
                    obtain ⟨s1, s2, s3, s4⟩ := hx
                    go_simp
                    try with_reducible rfl
                  simp only [Act.put]
                  refine WS_take (i := 2) (v := ?v2) (by rfl) (by decide) (by kernel_rfl) (by kernel_rfl) (by intro _ _ _ h; exact h) (Or.inl ⟨by rfl, ?hy2⟩) hS0 ?rest2
                  case hy2 =>
                    intro wx hx
                    obtain ⟨s1, s2, s3, s4⟩ := hx
                    go_simp
                    try with_reducible rfl
                  simp only [Act.put]
                  refine WS_take (i := 3) (v := ?v3) (by rfl) (by decide) (by kernel_rfl) (by kernel_rfl) (by intro _ _ _ h; exact h) (Or.inl ⟨by rfl, ?hy3⟩) hS0 ?rest3
                  case hy3 =>
                    intro wx hx
                    obtain ⟨s1, s2, s3, s4⟩ := hx
                    go_simp
                    try with_reducible rfl
                  simp only [Act.put]
                  refine WS_take (i := 4) (v := ?v4) (by rfl) (by decide) (by kernel_rfl) (by kernel_rfl) (by intro _ _ _ h; exact h) (Or.inl ⟨by rfl, ?hy4⟩) hS0 ?rest4
                  case hy4 =>
                    intro wx hx
                    obtain ⟨s1, s2, s3, s4⟩ := hx
                    go_simp
                    try with_reducible rfl
                  simp only [Act.put]
                  refine WS_take (i := 5) (v := ?v5) (by rfl) (by decide) (by kernel_rfl) (by kernel_rfl) (by intro _ _ _ h; exact h) (Or.inl ⟨by rfl, ?hy5⟩) hS0 ?rest5
                  case hy5 =>
                    intro wx hx
                    obtain ⟨s1, s2, s3, s4⟩ := hx
                    go_simp
                    try with_reducible rfl
                  simp only [Act.put]
                  refine WS_take (i := 6) (v := ?v6) (by rfl) (by decide) (by kernel_rfl) (by kernel_rfl) (by intro _ _ _ h; exact h) (Or.inl ⟨by rfl, ?hy6⟩) hS0 ?rest6
                  case hy6 =>
                    intro wx hx
                    obtain ⟨s1, s2, s3, s4⟩ := hx
                    go_simp
                    try with_reducible rfl
                  simp only [Act.put]
                  refine WS_take (i := 7) (v := ?v7) (by rfl) (by decide) (by kernel_rfl) (by kernel_rfl) (by intro _ _ _ h; exact h) (Or.inl ⟨by rfl, ?hy7⟩) hS0 ?rest7
                  case hy7 =>
                    intro wx hx
                    obtain ⟨s1, s2, s3, s4⟩ := hx
                    go_simp
                    try with_reducible rfl
                  simp only [Act.put]
                  refine WS_take (i := 8) (v := ?v8) (by rfl) (by decide) (by kernel_rfl) (by kernel_rfl) (by intro _ _ _ h; exact h) (Or.inl ⟨by rfl, ?hy8⟩) hS0 ?rest8
                  case hy8 =>
                    intro wx hx
                    obtain ⟨s1, s2, s3, s4⟩ := hx
                    go_simp
                    try with_reducible rfl
                  simp only [Act.put]
                  refine WS_take (i := 9) (v := ?v9) (by rfl) (by decide) (by kernel_rfl) (by kernel_rfl) (by intro _ _ _ h; exact h) (Or.inl ⟨by rfl, ?hy9⟩) hS0 ?rest9
                  case hy9 =>
                    intro wx hx
                    obtain ⟨s1, s2, s3, s4⟩ := hx
                    go_simp
                    try with_reducible rfl
                  simp only [Act.put]
                  refine WS_take (i := 10) (v := ?v10) (by rfl) (by decide) (by kernel_rfl) (by kernel_rfl) (by intro _ _ _ h; exact h) (Or.inl ⟨by rfl, ?hy10⟩) hS0 ?rest10
                  case hy10 =>
                    intro wx hx
                    obtain ⟨s1, s2, s3, s4⟩ := hx
                    go_simp
                    try with_reducible rfl
                  simp only [Act.put]
                  refine WS_take (i := 11) (v := ?v11) (by rfl) (by decide) (by kernel_rfl) (by kernel_rfl) (by intro _ _ _ h; exact h) (Or.inl ⟨by rfl, ?hy11⟩) hS0 ?rest11
                  case hy11 =>
                    intro wx hx
                    obtain ⟨s1, s2, s3, s4⟩ := hx
                    go_simp
                    try with_reducible rfl
                  simp only [Act.put]
                  refine WS_take (i := 12) (v := ?v12) (by rfl) (by decide) (by kernel_rfl) (by kernel_rfl) (by intro _ _ _ h; exact h) (Or.inl ⟨by rfl, ?hy12⟩) hS0 ?rest12
                  case hy12 =>
                    intro wx hx
                    obtain ⟨s1, s2, s3, s4⟩ := hx
                    go_simp
                    try with_reducible rfl
                  simp only [Act.put]
                  refine WS_take (i := 13) (v := ?v13) (by rfl) (by decide) (by kernel_rfl) (by kernel_rfl) (by intro _ _ _ h; exact h) (Or.inl ⟨by rfl, ?hy13⟩) hS0 ?rest13
                  case hy13 =>
                    intro wx hx
                    obtain ⟨s1, s2, s3, s4⟩ := hx
                    go_simp
                    try with_reducible rfl
                  simp only [Act.put]
                  refine WS_take (i := 14) (v := ?v14) (by rfl) (by decide) (by kernel_rfl) (by kernel_rfl) (by intro _ _ _ h; exact h) (Or.inl ⟨by rfl, ?hy14⟩) hS0 ?rest14
                  case hy14 =>
                    intro wx hx
                    obtain ⟨s1, s2, s3, s4⟩ := hx
                    go_simp
                    try with_reducible rfl
                  simp only [Act.put]
                  refine WS_take (i := 15) (v := ?v15) (by rfl) (by decide) (by kernel_rfl) (by kernel_rfl) (by intro _ _ _ h; exact h) (Or.inl ⟨by rfl, ?hy15⟩) hS0 ?rest15
                  case hy15 =>
                    intro wx hx
                    obtain ⟨s1, s2, s3, s4⟩ := hx
                    go_simp
                    try with_reducible rfl
                  simp only [Act.put]
                  refine WS_take (i := 16) (v := ?v16) (by rfl) (by decide) (by kernel_rfl) (by kernel_rfl) (by intro _ _ _ h; exact h) (Or.inl ⟨by rfl, ?hy16⟩) hS0 ?rest16
                  case hy16 =>
                    intro wx hx
                    obtain ⟨s1, s2, s3, s4⟩ := hx
                    go_simp
                    try with_reducible rfl
                  simp only [Act.put]
                  refine WS_take (i := 17) (v := ?v17) (by rfl) (by decide) (by kernel_rfl) (by kernel_rfl) (by intro _ _ _ h; exact h) (Or.inl ⟨by rfl, ?hy17⟩) hS0 ?rest17
                  case hy17 =>
                    intro wx hx
                    obtain ⟨s1, s2, s3, s4⟩ := hx
                    go_simp
                    try with_reducible rfl
                  simp only [Act.put]
                  refine WS_take (i := 18) (v := ?v18) (by rfl) (by decide) (by kernel_rfl) (by kernel_rfl) (by intro _ _ _ h; exact h) (Or.inl ⟨by rfl, ?hy18⟩) hS0 ?rest18
                  case hy18 =>
                    intro wx hx
                    obtain ⟨s1, s2, s3, s4⟩ := hx
                    go_simp
                    try with_reducible rfl
                  simp only [Act.put]
                  refine WS_one (i := 19) (by rfl) (by decide) (by kernel_rfl) (fun K hK => ?_)
                  go_simp
                  refine hK _ _ ?_ ?_
                  · exact ⟨((HVA.out _).cell (p := ⟨wr.heap.size, 0, none⟩) (by show wr.heap.size < V.heap.size; omega)).trans v1, ((HVA.out _).cell (p := ⟨wr.heap.size, 1, none⟩) (by show wr.heap.size < V.heap.size; omega)).trans v2, ((HVA.out _).cell (p := ⟨wr.heap.size, 2, none⟩) (by show wr.heap.size < V.heap.size; omega)).trans v3, ((HVA.out _).cell (p := ⟨X, 1, none⟩) (by show X < V.heap.size; omega)).trans v4⟩
                  · refine WS_done (by kernel_rfl) ?_
                    simp only [List.drop_succ_cons, List.drop_zero]
                    clear hK K
                    go_wp2_with (at_builtin; refine wpList_seenH (by rfl) (.tmp 61) (.tmp 79) (by rfl) U.heap.size _ ((x.2.1.take m).map cutS) (q1.take 120, q2, q3.take 120) (by rfl) (wr.heap.size + 1) (by rfl) (by rw [← hVs]; exact heap_alloc_new V _) (HO2.out.below (HVB.out.trans ((HVA.out _).drew.mono HVB.out.size))) (Nat.le_trans hgs (Nat.le_trans HVB.out.size (HVA.out _).drew.size)) hol2 ?_; intro v' w4 h8 h9; have hX4 := (h9.block X (by omega)).trans (((HVA.out _).drew.block X (by omega)).trans HXV.out); obtain ⟨A4, n4, c4', rfl⟩ : ∃ A n c, v' = .slice A n c := (by obtain ⟨g4, c4', hv4, _⟩ := h8.shape sf_length (by simp); exact ⟨_, _, _, hv4⟩); obtain ⟨y0, y1, y2, fy0, fy1, fy2⟩ := cells3 hX4; dsimp only)
                    go_roundw
                    case rel => exact ⟨m + 1, _, by omega, by omega, by go_num, cells_setCell hX4 _, by rw [HT2.out]; exact h8.heap fun k5 hk5 => setCell_oth w4 X 1 k5 _ (fun e5 => by have h10 := (h8.lt k5 hk5).1; omega), grown_step hgr (HVB.out.trans ((HVA.out _).drew.mono HVB.out.size)) h9 _ _⟩
                    case measure => simp [RowKit.intOf]; omega
                · have n2 : ¬ (m : Int) < 8 := by omega
                  have hme : Hid (x.2.1.take m = x.2.1.take 8) := Lib.hid (by rw [show m = 8 by omega])
                  go_wp2_with fail
                  go_meet
                  exact ⟨rfl, rv, hXr, by rw [← hme.out]; exact hown, hgr⟩
              · have n1 : ¬ (m : Int) < (x.2.1.length : Int) := by omega
                have hme : Hid (x.2.1.take m = x.2.1.take 8) := Lib.hid (by rw [List.take_of_length_le (by omega), List.take_of_length_le (by omega)])
                go_wp2_with fail
                go_meet
                exact ⟨rfl, rv, hXr, by rw [← hme.out]; exact hown, hgr⟩
          case rest =>
            obtain ⟨rfl, rv, hX2, hown2, hg2⟩ := hcut
            clear hX1 hg0
            obtain ⟨U2, rfl⟩ : ∃ U2, U2 = wc := ⟨_, rfl⟩
            obtain ⟨rA, rl, rc, hrv⟩ : ∃ A n c, rv = .slice A n c := by
              obtain ⟨A, c, h, _⟩ := (hown2.rowC sf_length).shape
              exact ⟨A, _, c, h⟩
            subst hrv
            have hgs2 := hg2.size
            have HO4 := Lib.hid hown2
            have hg0 : U2.grownBy U2 (some X) := ⟨rfl, rfl, rfl, Nat.le_refl _, fun _ _ _ => rfl⟩
            clear hown2
            go_upto_block 4 with fail
            go_cut [7] (fun p wx => p = .pointer (some ⟨X, 0, none⟩) ∧ ∃ wv, wx.heap[X]? = some (.cells #[.string (bs (x.1.take 120)), .slice rA rl rc, wv] 42 (0, 0)) ∧ OwnC 46 2 ff U2.heap.size wx wv ((x.2.2.take 6).map cutF) ∧ U2.grownBy wx (some X))
            case first =>
              go_wp2_with fail
              go_loopw [10] (fun j wr => ∃ (m : Nat) (wv : Value), m ≤ x.2.2.length ∧ m ≤ 6 ∧ j = .int .i64 m ∧ wr.heap[X]? = some (.cells #[.string (bs (x.1.take 120)), .slice rA rl rc, wv] 42 (0, 0)) ∧ OwnC 46 2 ff U2.heap.size wr wv ((x.2.2.take m).map cutF) ∧ U2.grownBy wr (some X)) (fun j _ => x.2.2.length - (RowKit.intOf j).toNat)
              case atStart => exact ⟨0, _, Nat.zero_le _, Nat.zero_le _, rfl, hX2, OwnC.nil _ _ _ _ _, hg0⟩
              case round =>
                clear hX2 hg0
                obtain ⟨m, wv, hm, hm8, rfl, hXr, hown, hgr⟩ := hrel
                obtain ⟨k2, k3⟩ := HR1.out wr (grown_trans hg2 hgr)
                have hbw := HBW.out wr (grown_trans hg2 hgr)
                by_cases hml : m < x.2.2.length
                · have n1 : (m : Int) < (x.2.2.length : Int) := by omega
                  have n0 : (0 : Int) ≤ (m : Int) := by omega
                  by_cases hm88 : m < 6
                  · have n2 : (m : Int) < 6 := by omega
                    obtain ⟨g, o, rfl, hgl, hcc⟩ := H4.out (by intro e; rw [e] at hml; simp at hml)
                    obtain ⟨y1, y3⟩ := ff_cells (fun i u hu => (hbw.cell (p := ⟨g, o + m * 2 + i, none⟩) hgl).trans (hcc m hml i u hu))
                    have HT2 : Hid ((x.2.2.take (m + 1)).map cutF = (x.2.2.take m).map cutF ++ [cutF x.2.2[m]]) := Lib.hid (by rw [List.take_succ_eq_append_getElem hml, List.map_append]; rfl)
                    have hso := OK3.out _ (List.getElem_mem hml)
                    clear hcc
                    generalize x.2.2[m] = r at *
                    obtain ⟨q1, q3⟩ := r
                    obtain ⟨so1, so2⟩ := hso
                    simp only [maxLen] at so1 so2
                    simp only at y1 y3
                    have e1 := xext_minr q1 120
                    have e3 := xext_minr q3 120
                    simp only [show ((120 : Nat) : Int) = 120 from rfl] at e1 e3
                    have z1 := bs_size q1
                    have z3 := bs_size q3
                    have f1 : (0 : Int) ≤ min ((bs q1).size : Int) 120 := by omega
                    have f2 : min ((bs q1).size : Int) 120 ≤ ((bs q1).size : Int) := by omega
                    have f3 : (0 : Int) ≤ min ((bs q3).size : Int) 120 := by omega
                    have f4 : min ((bs q3).size : Int) 120 ≤ ((bs q3).size : Int) := by omega
                    rw [z1] at e1 f1 f2
                    rw [z3] at e3 f3 f4
                    have HO2 := Lib.hid hown
                    have hol2 : ((x.2.2.take m).map cutF).length < 1000000 := by simp; omega
                    obtain ⟨vA, vl, vc, hwv⟩ : ∃ A n c, wv = .slice A n c := by
                      obtain ⟨A, c, h, _⟩ := (hown.rowC ff_length).shape
                      exact ⟨A, _, c, h⟩
                    subst hwv
                    have hgs := hgr.size
                    obtain ⟨V, hV⟩ : ∃ V, V = wr.alloc (.cells #[.string (bs q1), .string (bs q3)] 46) := ⟨_, rfl⟩
                    have hVn : V.heap[wr.heap.size]? = some (.cells #[.string (bs q1), .string (bs q3)] 46 (0, 0)) := by rw [hV]; exact heap_alloc_new _ _
                    have hVb : Below wr.heap.size wr V := by rw [hV]; exact (Below.refl _ _).alloc (Nat.le_refl _) _
                    have hXl : X < wr.heap.size := by omega
                    have hXV := (hVb.block X hXl).trans hXr
                    have hVs : V.heap.size = wr.heap.size + 1 := by rw [hV]; simp
                    go_upto_region 15 with fail
                    rw [← hV]
                    obtain ⟨v1, v3, _, _⟩ := cells2 hVn
                    obtain ⟨_, _, v4, _, _, _⟩ := cells3 hXV
                    have HXV := Lib.hid hXV
                    have HVB := Lib.hid hVb
                    have HVA := Lib.hid (fun o => (Below.refl V.heap.size V).alloc (Nat.le_refl _) o)
                    clear hV hVn hXr hown hXV hVb y1 y3 k2 k3
                    refine wp_region_headS 18 (fun wz => wz.cell? ⟨wr.heap.size, 0, none⟩ = some (.string (bs q1)) ∧ wz.cell? ⟨wr.heap.size, 1, none⟩ = some (.string (bs q3)) ∧ wz.cell? ⟨X, 2, none⟩ = some (.slice vA vl vc)) (by kernel_rfl) (by kernel_rfl) ?_
                    have hS0 : (fun wz : World => wz.cell? ⟨wr.heap.size, 0, none⟩ = some (.string (bs q1)) ∧ wz.cell? ⟨wr.heap.size, 1, none⟩ = some (.string (bs q3)) ∧ wz.cell? ⟨X, 2, none⟩ = some (.slice vA vl vc)) V.drew := ⟨v1, v3, v4⟩
                    refine WS_take (i := 0) (v := ?vb0) (by rfl) (by decide) (by kernel_rfl) (by kernel_rfl) (by intro _ _ _ h; exact h) (Or.inl ⟨by rfl, ?hyb0⟩) hS0 ?restb0
                    case hyb0 =>
                      intro wx hx
                      obtain ⟨s1, s2, s3⟩ := hx
                      go_simp
                      try with_reducible rfl
                    simp only [Act.put, List.setIfInBounds_toArray]
                    refine WS_take (i := 1) (v := ?vb1) (by rfl) (by decide) (by kernel_rfl) (by kernel_rfl) (by intro _ _ _ h; exact h) (Or.inl ⟨by rfl, ?hyb1⟩) hS0 ?restb1
                    case hyb1 =>
                      intro wx hx
                      obtain ⟨s1, s2, s3⟩ := hx
                      go_simp
                      try with_reducible rfl
                    simp only [Act.put]
                    refine WS_take (i := 2) (v := ?vb2) (by rfl) (by decide) (by kernel_rfl) (by kernel_rfl) (by intro _ _ _ h; exact h) (Or.inl ⟨by rfl, ?hyb2⟩) hS0 ?restb2
                    case hyb2 =>
                      intro wx hx
                      obtain ⟨s1, s2, s3⟩ := hx
                      go_simp
                      try with_reducible rfl
                    simp only [Act.put]
                    refine WS_take (i := 3) (v := ?vb3) (by rfl) (by decide) (by kernel_rfl) (by kernel_rfl) (by intro _ _ _ h; exact h) (Or.inl ⟨by rfl, ?hyb3⟩) hS0 ?restb3
                    case hyb3 =>
                      intro wx hx
                      obtain ⟨s1, s2, s3⟩ := hx
                      go_simp
                      try with_reducible rfl
                    simp only [Act.put]
                    refine WS_take (i := 4) (v := ?vb4) (by rfl) (by decide) (by kernel_rfl) (by kernel_rfl) (by intro _ _ _ h; exact h) (Or.inl ⟨by rfl, ?hyb4⟩) hS0 ?restb4
                    case hyb4 =>
                      intro wx hx
                      obtain ⟨s1, s2, s3⟩ := hx
                      go_simp
                      try with_reducible rfl
                    simp only [Act.put]
                    refine WS_take (i := 5) (v := ?vb5) (by rfl) (by decide) (by kernel_rfl) (by kernel_rfl) (by intro _ _ _ h; exact h) (Or.inl ⟨by rfl, ?hyb5⟩) hS0 ?restb5
                    case hyb5 =>
                      intro wx hx
                      obtain ⟨s1, s2, s3⟩ := hx
                      go_simp
                      try with_reducible rfl
                    simp only [Act.put]
                    refine WS_take (i := 6) (v := ?vb6) (by rfl) (by decide) (by kernel_rfl) (by kernel_rfl) (by intro _ _ _ h; exact h) (Or.inl ⟨by rfl, ?hyb6⟩) hS0 ?restb6
                    case hyb6 =>
                      intro wx hx
                      obtain ⟨s1, s2, s3⟩ := hx
                      go_simp
                      try with_reducible rfl
                    simp only [Act.put]
                    refine WS_take (i := 7) (v := ?vb7) (by rfl) (by decide) (by kernel_rfl) (by kernel_rfl) (by intro _ _ _ h; exact h) (Or.inl ⟨by rfl, ?hyb7⟩) hS0 ?restb7
                    case hyb7 =>
                      intro wx hx
                      obtain ⟨s1, s2, s3⟩ := hx
                      go_simp
                      try with_reducible rfl
                    simp only [Act.put]
                    refine WS_take (i := 8) (v := ?vb8) (by rfl) (by decide) (by kernel_rfl) (by kernel_rfl) (by intro _ _ _ h; exact h) (Or.inl ⟨by rfl, ?hyb8⟩) hS0 ?restb8
                    case hyb8 =>
                      intro wx hx
                      obtain ⟨s1, s2, s3⟩ := hx
                      go_simp
                      try with_reducible rfl
                    simp only [Act.put]
                    refine WS_take (i := 9) (v := ?vb9) (by rfl) (by decide) (by kernel_rfl) (by kernel_rfl) (by intro _ _ _ h; exact h) (Or.inl ⟨by rfl, ?hyb9⟩) hS0 ?restb9
                    case hyb9 =>
                      intro wx hx
                      obtain ⟨s1, s2, s3⟩ := hx
                      go_simp
                      try with_reducible rfl
                    simp only [Act.put]
                    refine WS_take (i := 10) (v := ?vb10) (by rfl) (by decide) (by kernel_rfl) (by kernel_rfl) (by intro _ _ _ h; exact h) (Or.inl ⟨by rfl, ?hyb10⟩) hS0 ?restb10
                    case hyb10 =>
                      intro wx hx
                      obtain ⟨s1, s2, s3⟩ := hx
                      go_simp
                      try with_reducible rfl
                    simp only [Act.put]
                    refine WS_take (i := 11) (v := ?vb11) (by rfl) (by decide) (by kernel_rfl) (by kernel_rfl) (by intro _ _ _ h; exact h) (Or.inl ⟨by rfl, ?hyb11⟩) hS0 ?restb11
                    case hyb11 =>
                      intro wx hx
                      obtain ⟨s1, s2, s3⟩ := hx
                      go_simp
                      try with_reducible rfl
                    simp only [Act.put]
                    refine WS_take (i := 12) (v := ?vb12) (by rfl) (by decide) (by kernel_rfl) (by kernel_rfl) (by intro _ _ _ h; exact h) (Or.inl ⟨by rfl, ?hyb12⟩) hS0 ?restb12
                    case hyb12 =>
                      intro wx hx
                      obtain ⟨s1, s2, s3⟩ := hx
                      go_simp
                      try with_reducible rfl
                    simp only [Act.put]
                    refine WS_take (i := 13) (v := ?vb13) (by rfl) (by decide) (by kernel_rfl) (by kernel_rfl) (by intro _ _ _ h; exact h) (Or.inl ⟨by rfl, ?hyb13⟩) hS0 ?restb13
                    case hyb13 =>
                      intro wx hx
                      obtain ⟨s1, s2, s3⟩ := hx
                      go_simp
                      try with_reducible rfl
                    simp only [Act.put]
                    refine WS_take (i := 14) (v := ?vb14) (by rfl) (by decide) (by kernel_rfl) (by kernel_rfl) (by intro _ _ _ h; exact h) (Or.inl ⟨by rfl, ?hyb14⟩) hS0 ?restb14
                    case hyb14 =>
                      intro wx hx
                      obtain ⟨s1, s2, s3⟩ := hx
                      go_simp
                      try with_reducible rfl
                    simp only [Act.put]
                    refine WS_take (i := 15) (v := ?vb15) (by rfl) (by decide) (by kernel_rfl) (by kernel_rfl) (by intro _ _ _ h; exact h) (Or.inl ⟨by rfl, ?hyb15⟩) hS0 ?restb15
                    case hyb15 =>
                      intro wx hx
                      obtain ⟨s1, s2, s3⟩ := hx
                      go_simp
                      try with_reducible rfl
                    simp only [Act.put]
                    refine WS_take (i := 16) (v := ?vb16) (by rfl) (by decide) (by kernel_rfl) (by kernel_rfl) (by intro _ _ _ h; exact h) (Or.inl ⟨by rfl, ?hyb16⟩) hS0 ?restb16
                    case hyb16 =>
                      intro wx hx
                      obtain ⟨s1, s2, s3⟩ := hx
                      go_simp
                      try with_reducible rfl
                    simp only [Act.put]
                    refine WS_one (i := 17) (by rfl) (by decide) (by kernel_rfl) (fun K hK => ?_)
                    go_simp
                    refine hK _ _ ?_ ?_
                    · exact ⟨((HVA.out _).cell (p := ⟨wr.heap.size, 0, none⟩) (by show wr.heap.size < V.heap.size; omega)).trans v1, ((HVA.out _).cell (p := ⟨wr.heap.size, 1, none⟩) (by show wr.heap.size < V.heap.size; omega)).trans v3, ((HVA.out _).cell (p := ⟨X, 2, none⟩) (by show X < V.heap.size; omega)).trans v4⟩
                    · refine WS_done (by kernel_rfl) ?_
                      simp only [List.drop_succ_cons, List.drop_zero]
                      clear hK K
                      go_wp2_with (at_builtin; refine wpList_fileH (by rfl) (.tmp 105) (.tmp 121) (by rfl) U2.heap.size _ ((x.2.2.take m).map cutF) (q1.take 120, q3.take 120) (by rfl) (wr.heap.size + 1) (by rfl) (by rw [← hVs]; exact heap_alloc_new V _) (HO2.out.below (HVB.out.trans ((HVA.out _).drew.mono HVB.out.size))) (Nat.le_trans hgs (Nat.le_trans HVB.out.size (HVA.out _).drew.size)) hol2 ?_; intro v' w4 h8 h9; have hX4 := (h9.block X (by omega)).trans (((HVA.out _).drew.block X (by omega)).trans HXV.out); obtain ⟨A4, n4, c4', rfl⟩ : ∃ A n c, v' = .slice A n c := (by obtain ⟨g4, c4', hv4, _⟩ := h8.shape ff_length (by simp); exact ⟨_, _, _, hv4⟩); obtain ⟨y0, y1, y2, fy0, fy1, fy2⟩ := cells3 hX4; dsimp only)
                      go_roundw
                      case rel => exact ⟨m + 1, _, by omega, by omega, by go_num, cells_setCell hX4 _, by rw [HT2.out]; exact h8.heap fun k5 hk5 => setCell_oth w4 X 2 k5 _ (fun e5 => by have h10 := (h8.lt k5 hk5).1; omega), grown_step hgr (HVB.out.trans ((HVA.out _).drew.mono HVB.out.size)) h9 _ _⟩
                      case measure => simp [RowKit.intOf]; omega
                  · have n2 : ¬ (m : Int) < 6 := by omega
                    have hme : Hid (x.2.2.take m = x.2.2.take 6) := Lib.hid (by rw [show m = 6 by omega])
                    go_wp2_with fail
                    go_meet
                    exact ⟨rfl, wv, hXr, by rw [← hme.out]; exact hown, hgr⟩
                · have n1 : ¬ (m : Int) < (x.2.2.length : Int) := by omega
                  have hme : Hid (x.2.2.take m = x.2.2.take 6) := Lib.hid (by rw [List.take_of_length_le (by omega), List.take_of_length_le (by omega)])
                  go_wp2_with fail
                  go_meet
                  exact ⟨rfl, wv, hXr, by rw [← hme.out]; exact hown, hgr⟩
            case rest =>
              obtain ⟨rfl, wv, hX3, hown3, hg3⟩ := hcut
              obtain ⟨vA, vl, vc, hwv⟩ : ∃ A n c, wv = .slice A n c := by
                obtain ⟨A, c, h, _⟩ := (hown3.rowC ff_length).shape
                exact ⟨A, _, c, h⟩
              subst hwv
              have hown2 : OwnC 44 3 sf U.heap.size wc (.slice rA rl rc) ((x.2.1.take 8).map cutS) := HO4.out.heap fun k5 hk5 => hg3.block k5 (HO4.out.lt k5 hk5).2 (fun e => by have h1 := (HO4.out.lt k5 hk5).1; injection e with e; omega)
              have hgU := grown_trans hg2 hg3
              have HREC : Hid (RecIs wc wc.heap.size (x.1.take 120, .slice rA rl rc, .slice vA vl vc) (cutX x)) := Lib.hid ⟨rfl, hown2.rowC sf_length, hown3.rowC ff_length⟩
              have HAW : Hid (Away (Value.ownBlock u5) (x.1.take 120, .slice rA rl rc, .slice vA vl vc) (cutX x)) := Lib.hid fun b5 hb5 => by
                have h0 := HLT.out b5 hb5
                refine ⟨fun _ e => ?_, fun _ e => ?_⟩
                · have h1 := (hown2.lt b5 (own_blk e)).1; omega
                · have h1 := (hown3.lt b5 (own_blk e)).1; omega
              have HOX := Lib.hid (HOW.out wc hgU)
              have hbX := HBW.out wc hgU
              obtain ⟨x0, x1, x2, _, _, _⟩ := cells3 hX3
              clear hown2 hown3 hX2 hX3 hg0
              go_wp2_with (at_builtin; refine wpList_recE 22 42 Tryz.underlying22 prInfo (by rfl) (.tmp 124) (.tmp 126) (by rfl) w.heap.size _ ((l.take k).map cutX) (x.1.take 120, .slice rA rl rc, .slice vA vl vc) (cutX x) (by rfl) (by rfl) HOX.out HREC.out HAW.out hbX.size hol ?_; intro v' w4 h8 h9)
              go_roundw
              case rel => exact ⟨k + 1, by omega, by omega, by go_num, by rw [HT.out]; exact h8, hbX.trans h9⟩
              case measure => simp [RowKit.intOf]; omega
      · obtain rfl : k = most := by omega
        have i2 : ¬ (k : Int) < (k : Int) := by omega
        have HT : Hid ((l.take k).map cutX = cutL l k) := Lib.hid rfl
        go_wp2_with fail
        go_ret
        exact ⟨_, rfl, by rw [← HT.out]; exact hown.row, hbel⟩
    · obtain rfl : k = l.length := by omega
      have i1 : ¬ (l.length : Int) < (l.length : Int) := by omega
      have HT : Hid ((l.take l.length).map cutX = cutL l most) := Lib.hid (by unfold cutL; rw [List.take_length, List.take_of_length_le hkm])
      go_wp2_with fail
      go_ret
      exact ⟨_, rfl, by rw [← HT.out]; exact hown.row, hbel⟩
end Go.Proofs.YtiogmegdkfnkkaaGreatDoor
