/- number: say. -/
import Derived.Test.YtjmmfihmamcopaaGreatDoorNbS
namespace Go.Proofs.YtjmmfihmamcopaaGreatDoor
open Go.RowKit Tx Nb

/-- An owned row that is not empty. -/
theorem own_some {w : World} {base : Nat} {e : TypeId} {size n : Nat} {v : Value} {xs : List Value} (h : w.ownsRow base e size v n xs) (hn : 0 < n) :
    ∃ g cap, v = .slice (some ⟨g, 0, none⟩) n cap ∧ base ≤ g ∧ g < w.heap.size ∧ n ≤ cap ∧ cap ≤ maxLen ∧ ∀ j, j < n * size → w.cell? ⟨g, j, none⟩ = xs[j]? ∧ w.frozen? ⟨g, j, none⟩ = false := by
  rcases h.2 with ⟨_, h0⟩ | ⟨g, cap, cur, rfl, hb, hg, hnc, hcm, hcs, htake⟩
  · omega
  · refine ⟨g, cap, rfl, hb, (Array.getElem?_eq_some_iff.1 hg).1, hnc, hcm, fun j hj => ⟨?_, by simp [World.frozen?, hg]⟩⟩
    have h' : w.ownsRow base e size (.slice (some ⟨g, 0, none⟩) n cap) n xs := h
    exact h'.cellAt j hj
theorem flow_spec {s : St} (hi : Inv s) : ∃ bs ws, (flow s).blocks = bs ++ [((0 : Int), ws)] ∧ ((flow s).c.op = true → ws ≠ []) ∧ (flow s).c.flows = true := by
  unfold flow
  cases hf : s.c.flows with
  | true =>
    obtain ⟨bs, ws, h1, h2⟩ := hi.fl hf
    rw [if_pos rfl]
    exact ⟨bs, ws, h1, h2, hf⟩
  | false =>
    rw [if_neg (by simp)]
    refine ⟨s.blocks, [], rfl, fun ho => ?_, rfl⟩
    have := hi.op ho
    rw [hf] at this
    cases this
section
variable {B wb : Nat} {w0 w : World} {k : Cst} {s : St}
/-- An append to a list other than the blocks, and what its store leaves. -/
theorem Wk.push {w' : World} {v : Nat → Value} {s' : St} (h : Wk B w0 w wb k v (10 + s.blocks.length) (desc s v) s.c s.own) (i : Nat) (h0 : 0 < i ∧ i < 10) (hb : s'.blocks = s.blocks) (hc : s'.c = s.c) (hw : s'.own = s.own) (ho : ∀ j, j ≠ i → 0 < j → j < 10 → desc s' v j = desc s v j)
    {v' : Value} (h1 : (desc s' v i).Is B w' v') (h2 : w.grownBy w' (v i).ownBlock) (h3 : ∀ j, v'.ownBlock = some j → (v i).ownBlock = some j ∨ w.heap.size ≤ j) :
    (∃ A c, v' = .slice A (desc s' v i).n c) ∧ (∀ j, w'.cell? ⟨wb, j, none⟩ = (wcells v k s.c)[j]?) ∧ (∀ j, w'.frozen? ⟨wb, j, none⟩ = false) ∧ Is B w0 (w'.setCell ⟨wb, i, none⟩ v') wb k s' := by
  obtain ⟨h4, h5⟩ := h.app h0.2 h1 h2 h3
  refine ⟨own_slice h1, fun j => by rw [Lib.cell_of_heap h5]; simp, fun j => Lib.frozen_of_heap h5 j, ?_⟩
  rw [← hc, ← hw] at h4
  exact h4.is (by rw [hb]) (fun j _ => desc_app h0 hb ho j)
/-- The last block's words are in another slice. -/
theorem Wk.last_to {w' : World} {v : Nat → Value} (h : Wk B w0 w wb k v (10 + s.blocks.length) (desc s v) s.c s.own) {bs : List (Int × List Bs)} {kd : Int} {ws ws' : List Bs} (hbl : s.blocks = bs ++ [(kd, ws)])
    {v' : Value} (ho : w'.ownsRow B 9 1 v' ws'.length (ws'.flatMap txF)) (hg : w.grownBy w' (v (10 + bs.length)).ownBlock) (hb : ∀ j, v'.ownBlock = some j → (v (10 + bs.length)).ownBlock = some j ∨ w.heap.size ≤ j)
    {g c : Nat} (hv0 : v 0 = .slice (some ⟨g, 0, none⟩) (bs.length + 1) c) : Is B w0 (w'.setCell ⟨g, bs.length * 2 + 1, none⟩ v') wb k { s with blocks := bs ++ [(kd, ws')] } := by
  have hN : 10 + bs.length < 10 + s.blocks.length := by rw [hbl]; simp
  have hg0 : (v 0).ownBlock = some g := by rw [hv0]; rfl
  have hgl := h.ow.lt (i := 0) (by omega) g hg0
  have hbel := h.bel.grown hg h.hB (fun j hj => (h.ow.lt hN j hj).1)
  have hgw : g ≠ wb := fun e => h.ow.out 0 (by omega) g hg0 (e ▸ k.mem_wb wb)
  have hgm : g ≠ k.mb := fun e => h.ow.out 0 (by omega) g hg0 (e ▸ k.mem_mb wb)
  have hold : ∀ j, j < w.heap.size → (v (10 + bs.length)).ownBlock ≠ some j → w'.heap[j]? = w.heap[j]? := fun j h1 h2 => hg.block j h1 (fun e => h2 e.symm)
  have hoth : ∀ j, j ≠ g → (w'.setCell ⟨g, bs.length * 2 + 1, none⟩ v').heap[j]? = w'.heap[j]? := fun j hj => Below.heap_setCell _ _ _ _ (fun e => hj (by simpa using e))
  have hwn : ∀ j ∈ k.X wb, (v (10 + bs.length)).ownBlock ≠ some j := fun j hj e => h.ow.out _ hN j e hj
  have t1 : Ow B w' (k.X wb) (upd v (10 + bs.length) v') (10 + s.blocks.length) (upd (desc s v) (10 + bs.length) ⟨9, 1, ws'.length, ws'.flatMap txF⟩) :=
    h.ow.turn hN h.lt (fun j h1 h2 _ => hold j h1 h2) ho hb
  have ho0 : w'.ownsRow B 93 2 (.slice (some ⟨g, 0, none⟩) (bs.length + 1) c) (bs.length + 1) (blF v 10 s.blocks) := by
    have := t1.own 0 (by omega)
    rw [upd_ne _ _ (by omega), upd_ne _ _ (by omega), hv0] at this
    have h9 : (desc s v 0).n = bs.length + 1 := by simp [desc, hbl]
    have h8 : (desc s v 0).e = 93 ∧ (desc s v 0).sz = 2 ∧ (desc s v 0).ys = blF v 10 s.blocks := ⟨rfl, rfl, rfl⟩
    unfold Desc.Is at this
    rw [h9, h8.1, h8.2.1, h8.2.2] at this
    exact this
  obtain ⟨ho1, hg1⟩ := ho0.stored (bs.length * 2 + 1) v'
  have hl' : ∀ j ∈ k.X wb, j < w'.heap.size := fun j hj => Nat.lt_of_lt_of_le (h.lt j hj) hg.size
  have hu0 : upd v (10 + bs.length) v' 0 = .slice (some ⟨g, 0, none⟩) (bs.length + 1) c := by rw [upd_ne _ _ (by omega), hv0]
  have t2 := t1.turn (i := 0) (w' := w'.setCell ⟨g, bs.length * 2 + 1, none⟩ v') (by omega) hl' (fun j _ h2 _ => hoth j (fun e => h2 (by rw [hu0, e]; rfl)))
    (v' := .slice (some ⟨g, 0, none⟩) (bs.length + 1) c) (d' := ⟨93, 2, bs.length + 1, (blF v 10 s.blocks).set (bs.length * 2 + 1) v'⟩) ho1 (fun j hj => .inl (by rw [hu0]; exact hj))
  have hsame : upd (upd v (10 + bs.length) v') 0 (.slice (some ⟨g, 0, none⟩) (bs.length + 1) c) = upd v (10 + bs.length) v' := by
    funext j
    by_cases hj : j = 0
    · subst hj; rw [upd_at, hu0]
    · rw [upd_ne _ _ hj]
  rw [hsame] at t2
  refine Wk.is (s := { s with blocks := bs ++ [(kd, ws')] }) (v := upd v (10 + bs.length) v') (N := 10 + s.blocks.length) (D := upd (upd (desc s v) (10 + bs.length) ⟨9, 1, ws'.length, ws'.flatMap txF⟩) 0 ⟨93, 2, bs.length + 1, (blF v 10 s.blocks).set (bs.length * 2 + 1) v'⟩)
    ⟨by rw [World.size_setCell]; exact Nat.le_trans h.hB hg.size, hbel.setCell (p := ⟨g, bs.length * 2 + 1, none⟩) hgl.1 v', h.wbB, h.mbB, h.ne, h.n10, ?_, t2, h.map.keep ((hoth _ (Ne.symm hgm)).trans (hold _ (h.lt _ (k.mem_mb wb)) (hwn _ (k.mem_mb wb)))), h.res_to (fun p hp => (hoth p.1 (fun e => h.ow.out 0 (by omega) g hg0 (e ▸ k.mem_res wb hp))).trans (hold _ (h.lt _ (k.mem_res wb hp)) (hwn _ (k.mem_res wb hp))))⟩ (by rw [hbl]; simp) (fun i hi => ?_)
  · rw [hoth _ (Ne.symm hgw), hold _ (h.lt _ (k.mem_wb wb)) (hwn _ (k.mem_wb wb)), h.blk]
    have : ∀ i, i < 10 → upd v (10 + bs.length) v' i = v i := fun i hi => upd_ne _ _ (by omega)
    simp only [WBlk, wcells, this 0 (by omega), this 1 (by omega), this 2 (by omega), this 3 (by omega), this 4 (by omega), this 5 (by omega), this 6 (by omega), this 7 (by omega), this 8 (by omega), this 9 (by omega)]
  · by_cases h0 : i = 0
    · subst h0
      rw [upd_at]
      simp only [desc, List.length_append, List.length_singleton]
      have e1 : blF v 10 s.blocks = blF v 10 bs ++ [.int .i64 kd, v (10 + bs.length)] := by rw [hbl, blF_append]; rfl
      have e2 : blF (upd v (10 + bs.length) v') 10 (bs ++ [(kd, ws')]) = blF v 10 bs ++ [.int .i64 kd, v'] := by
        rw [blF_append, blF_congr (v := v) (v' := upd v (10 + bs.length) v') bs 10 (fun j h1 h2 => upd_ne _ _ (by omega))]
        simp only [blF]
        rw [upd_at]
      rw [e1, e2, List.set_append_right _ _ (by rw [blF_len]; omega), blF_len, show bs.length * 2 + 1 - bs.length * 2 = 1 by omega]
      rfl
    · rw [upd_ne _ _ h0]
      by_cases hiN : i = 10 + bs.length
      · subst hiN
        rw [upd_at, show 10 + bs.length = bs.length + 10 by omega]
        simp only [desc]
        rw [List.getElem?_append_right (Nat.le_refl _)]
        simp
      · rw [upd_ne _ _ hiN]
        by_cases h10 : i < 10
        · rcases ten_cases h10 with rfl | rfl | rfl | rfl | rfl | rfl | rfl | rfl | rfl | rfl <;> first | rfl | omega
        · obtain ⟨m, rfl⟩ : ∃ m, i = m + 10 := ⟨i - 10, by omega⟩
          have hm : m < bs.length := by rw [hbl] at hi; simp at hi; omega
          simp only [desc, hbl]
          rw [List.getElem?_append_left hm, List.getElem?_append_left hm]
theorem last_cells {w' : World} {v : Nat → Value} (h : Wk B w0 w wb k v (10 + s.blocks.length) (desc s v) s.c s.own) {bs : List (Int × List Bs)} {kd : Int} {ws : List Bs} (hbl : s.blocks = bs ++ [(kd, ws)])
    (hg : w.grownBy w' (v (10 + bs.length)).ownBlock) {g c : Nat} (hv0 : v 0 = .slice (some ⟨g, 0, none⟩) (bs.length + 1) c) : w'.cell? ⟨g, bs.length * 2 + 1, none⟩ = some (v (10 + bs.length)) ∧ w'.frozen? ⟨g, bs.length * 2 + 1, none⟩ = false := by
  have hN : 10 + bs.length < 10 + s.blocks.length := by rw [hbl]; simp
  have hg0 : (v 0).ownBlock = some g := by rw [hv0]; rfl
  have ho : w.ownsRow B 93 2 (v 0) (bs.length + 1) (blF v 10 bs ++ [.int .i64 kd, v (10 + bs.length)]) := by
    have := h.ow.own 0 (by omega)
    simp only [Desc.Is, desc, hbl, List.length_append, List.length_singleton] at this
    rw [blF_append] at this
    exact this
  have ho2 := own_heap (w' := w') ho (fun j hj => hg.block j (h.ow.lt (i := 0) (by omega) j hj).2 (fun e => h.ow.dis 0 _ (by omega) hN (by omega) j hj e.symm))
  obtain ⟨g', c', e, _, _, _, _, hcl⟩ := own_some ho2 (by omega)
  rw [hv0] at e
  injection e with e1 e2 e3
  injection e1 with e1
  injection e1 with e1
  subst e1
  obtain ⟨z0, zf0⟩ := hcl (bs.length * 2 + 1) (by omega)
  rw [List.getElem?_append_right (by rw [blF_len]; omega), blF_len, show bs.length * 2 + 1 - bs.length * 2 = 1 by omega, List.getElem?_cons_succ, List.getElem?_cons_zero] at z0
  exact ⟨z0, zf0⟩
/-- The last word of the last block is another one. -/
theorem Wk.word_to {v : Nat → Value} (h : Wk B w0 w wb k v (10 + s.blocks.length) (desc s v) s.c s.own) {bs : List (Int × List Bs)} {kd : Int} {ws : List Bs} {x : Bs} (hbl : s.blocks = bs ++ [(kd, ws ++ [x])])
    {g c : Nat} (hv : v (10 + bs.length) = .slice (some ⟨g, 0, none⟩) (ws.length + 1) c) (y : Bs) : Is B w0 (w.setCell ⟨g, ws.length, none⟩ (vs y)) wb k { s with blocks := bs ++ [(kd, ws ++ [y])] } := by
  have hN : 10 + bs.length < 10 + s.blocks.length := by rw [hbl]; simp
  have hgb : (v (10 + bs.length)).ownBlock = some g := by rw [hv]; rfl
  have hgl := h.ow.lt hN g hgb
  have hgw : g ≠ wb := fun e => h.ow.out _ hN g hgb (e ▸ k.mem_wb wb)
  have hgm : g ≠ k.mb := fun e => h.ow.out _ hN g hgb (e ▸ k.mem_mb wb)
  have ho0 : w.ownsRow B 9 1 (.slice (some ⟨g, 0, none⟩) (ws.length + 1) c) (ws.length + 1) ((ws ++ [x]).flatMap txF) := by
    have := h.ow.own _ hN
    rw [hv, show 10 + bs.length = bs.length + 10 by omega] at this
    simp only [Desc.Is, desc, hbl] at this
    rw [List.getElem?_append_right (Nat.le_refl _)] at this
    simpa using this
  obtain ⟨ho1, hg1⟩ := ho0.stored ws.length (vs y)
  have hoth : ∀ j, j ≠ g → (w.setCell ⟨g, ws.length, none⟩ (vs y)).heap[j]? = w.heap[j]? := fun j hj => Below.heap_setCell _ _ _ _ (fun e => hj (by simpa using e))
  have e1 : ((ws ++ [x]).flatMap txF).set ws.length (vs y) = (ws ++ [y]).flatMap txF := by
    have hl : (ws.flatMap txF).length = ws.length := by have := flat_length (f := txF) (n := 1) (fun _ => rfl) ws; omega
    rw [List.flatMap_append, List.flatMap_append, List.set_append_right _ _ (by omega), hl, Nat.sub_self]
    rfl
  rw [e1] at ho1
  have t2 := h.ow.turn (i := 10 + bs.length) (w' := w.setCell ⟨g, ws.length, none⟩ (vs y)) hN h.lt (fun j _ h2 _ => hoth j (fun e => h2 (by rw [hgb, e])))
    (v' := v (10 + bs.length)) (d' := ⟨9, 1, (ws ++ [y]).length, (ws ++ [y]).flatMap txF⟩) (by rw [hv]; simpa [Desc.Is] using ho1) (fun j hj => .inl hj)
  have hsame : upd v (10 + bs.length) (v (10 + bs.length)) = v := by
    funext j
    by_cases hj : j = 10 + bs.length
    · subst hj; rw [upd_at]
    · rw [upd_ne _ _ hj]
  rw [hsame] at t2
  refine Wk.is (s := { s with blocks := bs ++ [(kd, ws ++ [y])] }) (v := v) (N := 10 + s.blocks.length) (D := upd (desc s v) (10 + bs.length) ⟨9, 1, (ws ++ [y]).length, (ws ++ [y]).flatMap txF⟩)
    ⟨by rw [World.size_setCell]; exact h.hB, h.bel.setCell (p := ⟨g, ws.length, none⟩) hgl.1 _, h.wbB, h.mbB, h.ne, h.n10, (hoth _ (Ne.symm hgw)).trans h.blk, t2, h.map.keep (hoth _ (Ne.symm hgm)), h.res_to (fun p hp => hoth p.1 (fun e => h.ow.out _ hN g hgb (e ▸ k.mem_res wb hp)))⟩ (by rw [hbl]; simp) (fun i hi => ?_)
  by_cases hiN : i = 10 + bs.length
  · subst hiN
    rw [upd_at, show 10 + bs.length = bs.length + 10 by omega]
    simp only [desc]
    rw [List.getElem?_append_right (Nat.le_refl _)]
    simp
  · rw [upd_ne _ _ hiN]
    by_cases h0 : i = 0
    · subst h0
      simp only [desc, hbl]
      rw [blF_append, blF_append]
      simp [blF]
    · by_cases h10 : i < 10
      · rcases ten_cases h10 with rfl | rfl | rfl | rfl | rfl | rfl | rfl | rfl | rfl | rfl <;> first | rfl | omega
      · obtain ⟨m, rfl⟩ : ∃ m, i = m + 10 := ⟨i - 10, by omega⟩
        have hm : m < bs.length := by rw [hbl] at hi; simp at hi; omega
        simp only [desc, hbl]
        rw [List.getElem?_append_left hm, List.getElem?_append_left hm]
set_option maxRecDepth 100000 in
set_option maxHeartbeats 8000000 in
theorem say_any (h : Is B w0 w wb k s) (hi : Inv s) (T : Nat) (hT : T ≤ 900000) (hd : Bd s T) (t : Bs) (ht : t.length ≤ 1000) :
    Calls Tryz.prog 24 #[.pointer (some ⟨wb, 0, none⟩), vs t] w fun e' w' => e' = .returned (.tuple #[]) ∧ Is B w0 w' wb k (Nb.say s t) := by
  have HS := Lib.hid h
  by_cases h0 : t = []
  · subst h0
    have he : ((bs []).toList == []) = true := by rw [toList_bs]; rfl
    go_enter Tryz.func24, Tryz.ntmps24
    go_wp2_with fail
    refine bodyPost_ret (results_none rfl _ _ _) rfl ?_
    exact ⟨rfl, by simpa [Nb.say] using HS.out⟩
  · have he : ((bs t).toList == []) = false := by rw [toList_bs]; simp [h0]
    obtain ⟨⟨y0, _⟩, yf⟩ := h.cells
    have HI := Lib.hid hi
    have HB := Lib.hid hd
    have HT0 := Lib.hid h0
    clear h hi hd h0 yf
    go_enter Tryz.func24, Tryz.ntmps24
    go_upto_if 11 with fail
    go_cut [] from 7 to 16 (fun wx => Is B w0 wx wb k (flow s))
    case first =>
      cases hf : s.c.flows with
      | true =>
        rw [hf] at y0
        have HF : Hid (flow s = s) := Lib.hid (by unfold flow; rw [if_pos hf])
        clear hf
        go_wp2_with fail
        go_meet
        rw [HF.out]
        exact HS.out
      | false =>
        rw [hf] at y0
        have HF : Hid (flow s = { Nb.block s 0 [] with c := { (Nb.block s 0 []).c with flows := true } }) := Lib.hid (by unfold flow; rw [if_neg (by simp [hf])]; rfl)
        have HBL := Lib.hid (block_any (HS.out.with (Below.refl _ _) (OwnC.nil _ _ _ _ _) : IsW B w0 w wb k s (.slice none 0 0) []) 0 (by have := HB.out.bl; omega) (by have := HB.out.wo; omega) (by simp))
        clear hf
        go_wp2_with fail
        refine HBL.out.mono ?_
        rintro e w1 ⟨rfl, H1⟩
        have HS1 := Lib.hid H1
        have f0 := H1.cells.2 16
        obtain ⟨⟨z0, -⟩, -⟩ := H1.cells
        clear H1
        go_wp2_with fail
        go_meet
        rw [HF.out]
        exact HS1.out.flows true
    case rest =>
      obtain ⟨bs0, ws, hbl, hop, -⟩ := flow_spec HI.out
      have hfo : (flow s).c.op = s.c.op := by unfold flow; split <;> rfl
      have hfw : (flow s).c.words = s.c.words := by unfold flow; split <;> simp
      have hfd : ∀ b ∈ (flow s).blocks, b.2.length ≤ T ∧ ∀ x ∈ b.2, x.length ≤ T := by
        unfold flow
        split
        · exact HB.out.wd
        · intro b hb
          simp only [Nb.block] at hb
          rcases List.mem_append.1 hb with hb | hb
          · exact HB.out.wd b hb
          · simp only [List.mem_singleton] at hb
            subst hb
            simp
      have hfl : (flow s).blocks.length ≤ T + 1 := by
        have := HB.out.bl
        unfold flow
        split
        · omega
        · simp [Nb.block]; omega
      have HFD := Lib.hid hfd
      have hwsl : ws.length ≤ T := (hfd (0, ws) (by rw [hbl]; simp)).1
      have hbl0 : bs0.length ≤ T := by rw [hbl] at hfl; simp at hfl; omega
      have hwo := HB.out.wo
      have HSAY : Hid (Nb.say s t = if (flow s).c.op then { flow s with blocks := onLast (fun b => (b.1, onLast (· ++ t) b.2)) (flow s).blocks } else { flow s with blocks := onLast (fun b => (b.1, b.2 ++ [t])) (flow s).blocks, c := { (flow s).c with op := true, words := (flow s).c.words + 1 } }) := Lib.hid (by unfold Nb.say; rw [if_neg HT0.out])
      have HIS := Lib.hid hcut
      have HFW := Lib.hid hfw
      have HBD : Hid ((flow s).c.words ≤ T) := Lib.hid (by rw [hfw]; exact hwo)
      have HOP := Lib.hid hop
      have HBL := Lib.hid hbl
      generalize flow s = s1 at *
      obtain ⟨v, hw⟩ := hcut
      have HW := Lib.hid hw
      have hN : 10 + bs0.length < 10 + s1.blocks.length := by rw [hbl]; simp
      have ho0 : wc.ownsRow B 93 2 (v 0) (bs0.length + 1) (blF v 10 bs0 ++ [.int .i64 0, v (10 + bs0.length)]) := by
        have := hw.ow.own 0 (by omega)
        simp only [Desc.Is, desc, hbl, List.length_append, List.length_singleton] at this
        rw [blF_append] at this
        exact this
      obtain ⟨g, c0, hv0, hgB, hgl, hgc, hgm, hcl⟩ := own_some ho0 (by omega)
      obtain ⟨z0, zf0⟩ := hcl (bs0.length * 2 + 1) (by omega)
      rw [List.getElem?_append_right (by rw [blF_len]; omega), blF_len, show bs0.length * 2 + 1 - bs0.length * 2 = 1 by omega, List.getElem?_cons_succ, List.getElem?_cons_zero] at z0
      have y1 : wc.cell? ⟨wb, 0, none⟩ = some (.slice (some ⟨g, 0, none⟩) (bs0.length + 1) c0) := (hw.cell 0).trans (by rw [← hv0]; rfl)
      have y2 : wc.cell? ⟨wb, 17, none⟩ = some (.bool s1.c.op) := hw.cell 17
      have x1 : IntKind.i64.wrap (((bs0.length + 1 : Nat) : Int) - 1) = (bs0.length : Int) := by rw [IntWalk.i64_in _ (by omega)]; omega
      have how : wc.ownsRow B 9 1 (v (10 + bs0.length)) ws.length (ws.flatMap txF) := by
        have := hw.ow.own _ hN
        rw [show 10 + bs0.length = bs0.length + 10 by omega] at this ⊢
        simp only [Desc.Is, desc, hbl] at this
        rw [List.getElem?_append_right (Nat.le_refl _)] at this
        simpa using this
      have HOW := Lib.hid how
      have HV0 := Lib.hid hv0
      have HO0 := Lib.hid ho0
      have hm1 : (bs0.length : Int) < ((bs0.length + 1 : Nat) : Int) := by omega
      have hm0 : (0 : Int) ≤ (bs0.length : Int) := by omega
      have hN1 : HFD = HFD := rfl
      clear hcl ho0 hv0 hgB hgl hgc hgm hN hw how hfd hfo hfw hop hbl hN1
      have hkeep := Lib.hid (fun n => (HW.out.below (below_of_drewN n) : Wk B w0 (wc.drewN n) wb k v (10 + s1.blocks.length) (desc s1 v) s1.c s1.own))
      cases ho : s1.c.op with
      | true =>
        obtain ⟨ws0, x, rfl⟩ : ∃ a x, ws = a ++ [x] := ⟨ws.dropLast, ws.getLast (HOP.out ho), (List.dropLast_concat_getLast _).symm⟩
        rw [ho] at y2 HSAY
        have hxl : x.length ≤ T := (HFD.out (0, ws0 ++ [x]) (by rw [HBL.out]; simp)).2 x (by simp)
        have how := HOW.out
        rw [List.length_append, List.length_singleton] at how hwsl
        obtain ⟨g2, c2, hv2, _, _, hgc2, hgm2, hcl2⟩ := own_some how (by omega)
        obtain ⟨z1, zf1⟩ := hcl2 ws0.length (by omega)
        rw [List.flatMap_append, List.getElem?_append_right (by rw [flat_length (f := txF) (n := 1) (fun _ => rfl)]; omega), flat_length (f := txF) (n := 1) (fun _ => rfl), show ws0.length - ws0.length * 1 = 0 by omega] at z1
        have z1' : wc.cell? ⟨g2, ws0.length, none⟩ = some (vs x) := z1
        rw [hv2] at z0
        have x2 : IntKind.i64.wrap (((ws0.length + 1 : Nat) : Int) - 1) = (ws0.length : Int) := by rw [IntWalk.i64_in _ (by omega)]; omega
        have m1 : (ws0.length : Int) < ((ws0.length + 1 : Nat) : Int) := by omega
        have m0 : (0 : Int) ≤ (ws0.length : Int) := by omega
        have o1 : bs x ++ bs t = bs (x ++ t) := bs_append x t
        have o2 : ¬ (9223372036854775807 < (bs x).size + (bs t).size) := by rw [bs_size, bs_size]; omega
        have HV2 := Lib.hid hv2
        clear how hcl2 hgm2 z1 ho hv2
        go_wp2_with fail
        go_quiet (fail)
        go_upto_region 6 with fail
        refine wp_region_quiet_tail 15 (by kernel_rfl) (by kernel_rfl) ?_
        simp only [List.take_succ_cons, List.take_zero, List.drop_succ_cons, List.drop_zero]
        repeat (go_big_quiet_step (fail))
        refine wpQuiet_nil ?_
        go_wp2_with fail
        refine bodyPost_ret (results_none rfl _ _ _) rfl ?_
        refine ⟨rfl, ?_⟩
        rw [HSAY.out, if_pos trivial, HBL.out, onLast_snoc]
        simp only [onLast_snoc]
        exact (hkeep.out (nq + 1)).word_to HBL.out HV2.out (x ++ t)
      | false =>
        rw [ho] at y2 HSAY
        clear ho
        have x3 : IntKind.i64.wrap ((s1.c.words : Int) + 1) = ((s1.c.words + 1 : Nat) : Int) := by rw [IntWalk.i64_in _ (by have := HBD.out; omega)]; omega
        go_wp2_with fail
        go_quiet (fail)
        obtain ⟨i0, hi0, hz0, hz1, hz2⟩ := info_parts strInfo
        go_wp2_with (at_builtin; refine wpList_appN (by rfl) (.tmp 53) (.tmp 55) 25 (by rfl) B 9 i0 _ 1 16 Tryz.underlying25 hi0 hz0 hz1 hz2 (by rfl) (by decide) (v (10 + bs0.length)) ws.length (ws.flatMap txF) (txF t) rfl (by simp [txF, Value.oneCell']) (by rfl) wc.heap.size rfl (by rfl) HOW.out HW.out.hB (by simp only [maxLen]; omega) (by omega) ?_; intro v' w' h1 h2 h3; obtain ⟨A', c', rfl⟩ := own_slice h1; have HL := Lib.hid ((hkeep.out nq).last_to HBL.out (ws' := ws ++ [t]) (by simpa using h1) h2 h3 HV0.out); obtain ⟨ya, yf⟩ := last_cells (hkeep.out nq) HBL.out h2 HV0.out; obtain ⟨⟨-, y17, -⟩, yf1⟩ := HL.out.cells; have yf17 := yf1 17; obtain ⟨⟨-, -, y18, -⟩, yf2⟩ := (HL.out.op true).cells; have yf18 := yf2 18; simp only at y17 y18; clear yf1 yf2 h1 h2 h3)
        go_end0
        refine ⟨rfl, ?_⟩
        rw [HSAY.out, if_neg (by simp), HBL.out, onLast_snoc]
        rw [show (s1.c.words : Int) + 1 = ((s1.c.words + 1 : Nat) : Int) by omega]
        exact (HL.out.op true).words (s1.c.words + 1)
end
end Go.Proofs.YtjmmfihmamcopaaGreatDoor
