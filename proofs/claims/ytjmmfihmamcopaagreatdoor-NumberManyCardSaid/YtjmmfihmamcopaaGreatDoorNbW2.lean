/- number: note, block, close, here. -/
import Derived.Test.YtjmmfihmamcopaaGreatDoorNbW
namespace Go.Proofs.YtjmmfihmamcopaaGreatDoor
open Go.RowKit Tx Nb

theorem ntInfo : (Tryz.prog.info? 92).map (fun i => (i.zero, i.size, i.bytes)) = some (some (.agg #[.int .i64 0, .string ⟨#[]⟩]), 2, 24) := by kernel_rfl
theorem own_slice {w : World} {base : Nat} {e : TypeId} {size n : Nat} {v : Value} {xs : List Value} (h : w.ownsRow base e size v n xs) : ∃ A c, v = .slice A n c := by
  rcases h.2 with ⟨rfl, rfl⟩ | ⟨g, cap, cur, rfl, _⟩ <;> exact ⟨_, _, rfl⟩
theorem Wk.after {B N wb : Nat} {w0 w w' : World} {k : Cst} {v : Nat → Value} {D : Nat → Desc} {c : Sc} {own : Cn} (h : Wk B w0 w wb k v N D c own) {i : Nat} (hi : i < 10) {v' : Value} {d' : Desc} (ho : d'.Is B w' v') (hg : w.grownBy w' (v i).ownBlock) (hb : ∀ j, v'.ownBlock = some j → (v i).ownBlock = some j ∨ w.heap.size ≤ j) :
    Hid (Wk B w0 (w'.setCell ⟨wb, i, none⟩ v') wb k (upd v i v') N (upd D i d') c own) ∧ (∃ A n, v' = .slice A d'.n n) ∧ w'.cell? ⟨wb, i, none⟩ = some (v i) ∧ w'.frozen? ⟨wb, i, none⟩ = false := by
  obtain ⟨h1, h2⟩ := h.app hi ho hg hb
  refine ⟨Lib.hid h1, own_slice ho, ?_, Lib.frozen_of_heap h2 i⟩
  rw [Lib.cell_of_heap h2]
  rcases i with _ | _ | _ | _ | _ | _ | _ | _ | _ | _ | i <;> first | rfl | omega
theorem blkInfo : (Tryz.prog.info? 93).map (fun i => (i.zero, i.size, i.bytes)) = some (some (.agg #[.int .i64 0, .slice none 0 0]), 2, 32) := by kernel_rfl
/-- A work in the state s, and beside it words ws in the slice vw. -/
def IsW (B : Nat) (w0 w : World) (wb : Nat) (k : Cst) (s : St) (vw : Value) (ws : List Bs) : Prop :=
  ∃ v, Wk B w0 w wb k (upd v (10 + s.blocks.length) vw) (10 + s.blocks.length + 1) (upd (desc s v) (10 + s.blocks.length) ⟨9, 1, ws.length, ws.flatMap txF⟩) s.c s.own
theorem Is.with {B wb : Nat} {w0 w w' : World} {k : Cst} {s : St} (h : Is B w0 w wb k s) (hb : Below w.heap.size w w') {vw : Value} {ws : List Bs} (ho : OwnC 9 1 txF w.heap.size w' vw ws) : IsW B w0 w' wb k s vw ws := by
  obtain ⟨v, h⟩ := h
  have h2 := h.below hb
  have hf : ∀ j, vw.ownBlock = some j → w.heap.size ≤ j := fun j hj => (ho.lt j hj).1
  refine ⟨v, h2.hB, h2.bel, h2.wbB, h2.mbB, h2.ne, by omega, ?_, ?_, h2.map, h2.res⟩
  · rw [h2.blk]
    have : ∀ i, i < 10 → upd v (10 + s.blocks.length) vw i = v i := fun i hi => upd_ne _ _ (by omega)
    simp only [WBlk, wcells, this 0 (by omega), this 1 (by omega), this 2 (by omega), this 3 (by omega), this 4 (by omega), this 5 (by omega), this 6 (by omega), this 7 (by omega), this 8 (by omega), this 9 (by omega)]
  · refine h2.ow.push (ho.mono h.hB) (fun j hj => ⟨fun hx => ?_, fun i hi hji => ?_⟩)
    · have := h.lt j hx
      have := hf j hj
      omega
    · have := (h.ow.lt hi j hji).2
      have := hf j hj
      omega
theorem Wk.re {B wb : Nat} {w0 w : World} {k : Cst} {v : Nat → Value} {N : Nat} {D D' : Nat → Desc} {c : Sc} {own : Cn} (h : Wk B w0 w wb k v N D c own) (hD : ∀ i, i < N → D i = D' i) : Wk B w0 w wb k v N D' c own :=
  ⟨h.hB, h.bel, h.wbB, h.mbB, h.ne, h.n10, h.blk, h.ow.congr (fun _ _ => rfl) (fun i hi => (hD i hi).symm), h.map, h.res⟩
section
variable {B wb : Nat} {w0 w : World} {k : Cst} {s : St}
set_option maxRecDepth 100000 in
set_option maxHeartbeats 4000000 in
theorem note_wk {v : Nat → Value} (hw : Wk B w0 w wb k v (10 + s.blocks.length) (desc s v) s.c s.own) (e : Int) (t : Bs) (hn : s.notes.length < 1000000) :
    Calls Tryz.prog 51 #[.pointer (some ⟨wb, 0, none⟩), .int .i64 e, vs t] w fun e' w' => e' = .returned (.tuple #[]) ∧ ∃ v', Wk B w0 w' wb k v' (10 + s.blocks.length) (desc (Nb.note s e t) v') s.c s.own ∧ ∀ j, j ≠ 9 → v' j = v j := by
  obtain ⟨i0, hi0, hz0, hz1, hz2⟩ := info_parts ntInfo
  have y9 : w.cell? ⟨wb, 9, none⟩ = some (v 9) := hw.cell 9
  have HW := Lib.hid hw
  have HO := Lib.hid (show w.ownsRow B 92 2 (v 9) s.notes.length (s.notes.flatMap ntF) from hw.ow.own 9 (by omega))
  have HB := Lib.hid hw.hB
  clear hw
  go_enter Tryz.func51, Tryz.ntmps51
  go_wp2_with (at_builtin; refine wpList_appN (by rfl) (.tmp 11) (.tmp 15) 38 (by rfl) B 92 i0 _ 2 24 Tryz.underlying38 hi0 hz0 hz1 hz2 (by rfl) (by decide) (v 9) s.notes.length (s.notes.flatMap ntF) (ntF (e, t)) rfl (by simp [ntF, Value.oneCell']) (by rfl) w.heap.size rfl (by rfl) HO.out HB.out (by simp only [maxLen]; omega) (by omega) ?_; intro v' w' h1 h2 h3; obtain ⟨HK, ⟨A', c', rfl⟩, ya, yf⟩ := HW.out.after (i := 9) (by omega) (d' := desc (Nb.note s e t) v 9) (by simpa [Desc.Is, desc, Nb.note] using h1) h2 h3; clear h1 h2 h3)
  go_end0
  exact ⟨rfl, _, HK.out.re (fun j _ => desc_app (s := s) (s' := Nb.note s e t) (by omega) rfl (fun j h1 h2 h3 => by rcases ten_cases h3 with rfl | rfl | rfl | rfl | rfl | rfl | rfl | rfl | rfl | rfl <;> first | rfl | omega) j), fun j hj => upd_ne _ _ hj⟩
theorem note_any (h : Is B w0 w wb k s) (e : Int) (t : Bs) (hn : s.notes.length < 1000000) :
    Calls Tryz.prog 51 #[.pointer (some ⟨wb, 0, none⟩), .int .i64 e, vs t] w fun e' w' => e' = .returned (.tuple #[]) ∧ Is B w0 w' wb k (Nb.note s e t) := by
  obtain ⟨v, hw⟩ := h
  refine (note_wk hw e t hn).mono ?_
  rintro e' w' ⟨rfl, v', h, _⟩
  exact ⟨rfl, v', h⟩
set_option maxRecDepth 100000 in
set_option maxHeartbeats 4000000 in
theorem block_any {vw : Value} {ws : List Bs} (h : IsW B w0 w wb k s vw ws) (kd : Int) (hn : s.blocks.length < 1000000) (hw1 : s.c.words < 10000000) (hw2 : ws.length < 10000000) :
    Calls Tryz.prog 33 #[.pointer (some ⟨wb, 0, none⟩), .int .i64 kd, vw] w fun e' w' => e' = .returned (.tuple #[]) ∧ Is B w0 w' wb k (Nb.block s kd ws) := by
  obtain ⟨v, hw⟩ := h
  obtain ⟨i0, hi0, hz0, hz1, hz2⟩ := info_parts blkInfo
  obtain ⟨N, hN⟩ : ∃ N, N = 10 + s.blocks.length := ⟨_, rfl⟩
  rw [← hN] at hw
  have y0 : w.cell? ⟨wb, 0, none⟩ = some (v 0) := by rw [hw.cell 0]; show some (upd v N vw 0) = _; rw [upd_ne _ _ (by omega)]
  have ho : w.ownsRow B 93 2 (v 0) s.blocks.length (blF v 10 s.blocks) := by
    have := hw.ow.own 0 (by omega)
    rw [upd_ne _ _ (by omega), upd_ne _ _ (by omega)] at this
    exact this
  have hov : w.ownsRow B 9 1 vw ws.length (ws.flatMap txF) := by
    have := hw.ow.own N (by omega)
    rw [upd_at, upd_at] at this
    exact this
  obtain ⟨vA, vc, rfl⟩ : ∃ A c, vw = .slice A ws.length c := own_slice hov
  have HW := Lib.hid hw
  have HO := Lib.hid ho
  have HB := Lib.hid hw.hB
  have x1 : IntKind.i64.wrap ((s.c.words : Int) + (ws.length : Int)) = ((s.c.words + ws.length : Nat) : Int) := by rw [IntWalk.i64_in _ (by omega)]; omega
  have HNN := Lib.hid hN
  have hv0 : upd v N (.slice vA ws.length vc) 0 = v 0 := upd_ne _ _ (by omega)
  have HV0 := Lib.hid hv0
  clear hw ho hov hN hv0
  go_enter Tryz.func33, Tryz.ntmps33
  go_wp2_with (at_builtin; refine wpList_appN (by rfl) (.tmp 11) (.tmp 15) 36 (by rfl) B 93 i0 _ 2 32 Tryz.underlying36 hi0 hz0 hz1 hz2 (by rfl) (by decide) (v 0) s.blocks.length (blF v 10 s.blocks) [.int .i64 kd, .slice vA ws.length vc] rfl (by simp [Value.oneCell']) (by rfl) w.heap.size rfl (by rfl) HO.out HB.out (by simp only [maxLen]; omega) (by omega) ?_; intro v' w' h1 h2 h3; obtain ⟨HK, ⟨A', c', rfl⟩, ya, yf⟩ := HW.out.after (i := 0) (by omega) (d' := ⟨93, 2, s.blocks.length + 1, blF v 10 s.blocks ++ [Value.int .i64 kd, Value.slice vA ws.length vc]⟩) h1 (by rw [HV0.out]; exact h2) (by rw [HV0.out]; exact h3); have y18 := HK.out.cell 18; have f18 := HK.out.frozen 18; simp only [wcells, List.getElem?_cons_succ, List.getElem?_cons_zero] at y18; clear h1 h2 h3)
  go_end0
  refine ⟨rfl, ?_⟩
  have h2 := HK.out.set 18 (.int .i64 ((s.c.words : Int) + ws.length)) (Nb.block s kd ws).c (by
    simp only [wcells, List.set_cons_succ, List.set_cons_zero, Nb.block]
    rw [show (s.c.words : Int) + (ws.length : Int) = ((s.c.words + ws.length : Nat) : Int) by omega])
  have hN := HNN.out
  refine Wk.is (s := Nb.block s kd ws) h2 (by rw [hN]; simp only [Nb.block, List.length_append, List.length_singleton]; omega) (fun i hi => ?_)
  by_cases h0 : i = 0
  · subst h0
    rw [upd_at]
    simp only [desc, Nb.block, List.length_append, List.length_singleton]
    rw [blF_append, blF_congr (v := v) (v' := upd (upd v N (Value.slice vA ws.length vc)) 0 (Value.slice A' (s.blocks.length + 1) c')) s.blocks 10 (fun j h1 h2 => by rw [upd_ne _ _ (by omega), upd_ne _ _ (by omega)])]
    simp only [blF]
    rw [upd_ne _ _ (by omega), ← hN, upd_at]
  · rw [upd_ne _ _ h0]
    by_cases hiN : i = N
    · subst hiN
      rw [upd_at, hN, show 10 + s.blocks.length = s.blocks.length + 10 by omega]
      simp only [desc, Nb.block]
      rw [List.getElem?_append_right (Nat.le_refl _)]
      simp
    · rw [upd_ne _ _ hiN]
      by_cases h10 : i < 10
      · rcases ten_cases h10 with rfl | rfl | rfl | rfl | rfl | rfl | rfl | rfl | rfl | rfl <;> first | rfl | omega
      · obtain ⟨m, rfl⟩ : ∃ m, i = m + 10 := ⟨i - 10, by omega⟩
        simp only [desc, Nb.block]
        rw [List.getElem?_append_left (by omega)]
end
end Go.Proofs.YtjmmfihmamcopaaGreatDoor
