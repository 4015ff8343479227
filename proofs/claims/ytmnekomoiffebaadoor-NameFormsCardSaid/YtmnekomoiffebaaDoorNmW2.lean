/- The walk of name.Words: what a text's words are. -/
import Derived.Test.YtmnekomoiffebaaDoorRows
import Derived.Test.YtmnekomoiffebaaDoorKit
import Derived.Test.YtmnekomoiffebaaDoorStr
import Derived.Test.YtmnekomoiffebaaDoorShelf
import Derived.Test.YtmnekomoiffebaaDoorNmW1
import Derived.Laws.RangeAny
namespace Go.Proofs.YtmnekomoiffebaaDoor
open Go.RowKit Go.Lib Go.Sort Tx

theorem decode_cont (s : ByteArray) (pos : Nat) (h : pos < s.size) (ha : 128 ≤ (s.get! (pos + 0)).toNat) : 1 ≤ (Utf8.decode s pos).2 ∧ ∀ j, j < (Utf8.decode s pos).2 → pos + j < s.size ∧ 128 ≤ (s.get! (pos + j)).toNat := by
  have hn : ¬ (s.get! (pos + 0)).toNat < 128 := by omega
  have one : ∀ j, j < 1 → pos + j < s.size ∧ 128 ≤ (s.get! (pos + j)).toNat := fun j hj => by
    obtain rfl : j = 0 := by omega
    exact ⟨h, ha⟩
  simp only [Utf8.decode, hn, if_false]
  repeat' split
  all_goals (first | exact ⟨Nat.le_refl _, one⟩ | skip)
  all_goals refine ⟨by dsimp only; omega, fun j hj => ?_⟩
  all_goals rename_i hc _
  all_goals simp only [Bool.and_eq_true, decide_eq_true_eq, beq_iff_eq] at hc
  all_goals rcases Nat.lt_or_ge j 1 with h1 | h1
  all_goals (first | exact one j h1 | skip)
  all_goals rcases (show j = 1 ∨ j = 2 ∨ j = 3 by simp at hj; omega) with rfl | rfl | rfl
  all_goals (first | (exfalso; simp at hj; done) | (constructor <;> omega))

theorem get_list (s : ByteArray) (k : Nat) (h : k < s.size) : s.get! k = s.data.toList[k]'(by rw [size_list]; exact h) := by
  simp [ByteArray.get!, getElem!_pos, h]
theorem take_more (l : Bs) (a b : Nat) (h : a ≤ b) : l.take b = l.take a ++ (l.take b).drop a := by
  rw [show l.take a = (l.take b).take a by rw [List.take_take, Nat.min_eq_left h], List.take_append_drop]

/-- What a round of the loop over a text's runes does to its pieces. -/
theorem sp_blank (l : Bs) (pos fr : Nat) (h : pos < l.length) (hb : bl l[pos] = true) (_hf : fr ≤ pos) (hi : (sp bl (l.take pos)).2 = (l.take pos).drop fr) :
    (sp bl (l.take (pos + 1))).1 = (sp bl (l.take pos)).1 ++ [(l.take pos).drop fr] ∧ (sp bl (l.take (pos + 1))).2 = (l.take (pos + 1)).drop (pos + 1) := by
  rw [List.take_succ_eq_append_getElem h, sp_hit bl _ _ hb, hi]
  exact ⟨rfl, (List.drop_eq_nil_of_le (by simp; omega)).symm⟩
theorem sp_rune (l : Bs) (pos fr wd : Nat) (h : pos + wd ≤ l.length) (hb : ∀ j (h : j < wd), bl (l[pos + j]'(by omega)) = false) (hf : fr ≤ pos) (hi : (sp bl (l.take pos)).2 = (l.take pos).drop fr) :
    (sp bl (l.take (pos + wd))).1 = (sp bl (l.take pos)).1 ∧ (sp bl (l.take (pos + wd))).2 = (l.take (pos + wd)).drop fr := by
  have e := take_more l pos (pos + wd) (by omega)
  rw [e, sp_more bl _ _ (fun c hc => by
    obtain ⟨j, hj, rfl⟩ := List.getElem_of_mem hc
    simp at hj
    simp
    exact hb j (by omega)), hi]
  refine ⟨rfl, ?_⟩
  rw [List.drop_append_of_le_length (by simp; omega)]

theorem not_bl {n : Nat} {c : UInt8} (hn : n = c.toNat ∨ 128 ≤ n) (h : bl c = false) : ((n : Int) == 32) = false ∧ ((n : Int) == 9) = false ∧ ((n : Int) == 10) = false := by
  simp only [bl, Bool.or_eq_false_iff, beq_eq_false_iff_ne] at h
  obtain ⟨⟨h1, h2⟩, h3⟩ := h
  rcases hn with rfl | hn
  · have k1 : c.toNat ≠ 32 := fun e => h1 (UInt8.toNat_inj.1 e)
    have k2 : c.toNat ≠ 9 := fun e => h2 (UInt8.toNat_inj.1 e)
    have k3 : c.toNat ≠ 10 := fun e => h3 (UInt8.toNat_inj.1 e)
    refine ⟨?_, ?_, ?_⟩ <;> simp <;> omega
  · refine ⟨?_, ?_, ?_⟩ <;> simp <;> omega
theorem bl_high {c : UInt8} (h : 128 ≤ c.toNat) : bl c = false := by
  simp only [bl, Bool.or_eq_false_iff, beq_eq_false_iff_ne]
  refine ⟨⟨?_, ?_⟩, ?_⟩ <;> (rintro rfl; revert h; decide)
/-- A rune that is no blank: none of its bytes is one. -/
theorem dec_plain (s : ByteArray) (pos : Nat) (hp : pos < s.size) (hb : bl (s[pos]'hp) = false) :
    1 ≤ (Utf8.decode s pos).2 ∧ ∃ hw : pos + (Utf8.decode s pos).2 ≤ s.data.toList.length, (∀ j (h : j < (Utf8.decode s pos).2), bl (s.data.toList[pos + j]'(by omega)) = false) ∧
      (((Utf8.decode s pos).1 : Int) == 32) = false ∧ (((Utf8.decode s pos).1 : Int) == 9) = false ∧ (((Utf8.decode s pos).1 : Int) == 10) = false := by
  have hl := size_list s
  have hget := get_at s pos hp
  have hgl : s.data.toList[pos]'(by omega) = s[pos]'hp := by rw [← get_list s pos hp]; exact hget
  by_cases ha : (s[pos]'hp).toNat < 128
  · have hd := decode_ascii s pos hp ha
    refine ⟨by rw [hd]; exact Nat.le_refl _, by rw [hd, hl]; show pos + 1 ≤ _; omega, fun j h => ?_, ?_⟩
    · have : j = 0 := by rw [hd] at h; simp at h; exact h
      subst this
      simp only [Nat.add_zero]
      rw [hgl]; exact hb
    · rw [hd]
      exact not_bl (.inl rfl) hb
  · obtain ⟨h1, h2⟩ := decode_cont s pos hp (by rw [hget]; omega)
    have h3 := (decode_high s pos hp (by omega)).1
    refine ⟨h1, ?_, fun j h => ?_, not_bl (.inr h3) hb⟩
    · have := (h2 ((Utf8.decode s pos).2 - 1) (by omega)).1
      omega
    · have := h2 j h
      rw [get_list s _ this.1] at this
      exact bl_high this.2

/-- What words_any's loop holds at byte pos. -/
def WordsAt (s : ByteArray) (k B : Nat) (w0 : World) (pos fr : Nat) (v : Value) (w : World) : Prop :=
  fr ≤ pos ∧ pos ≤ s.size ∧ w.heap[k]? = some (.stringIter s pos) ∧ (sp bl (s.data.toList.take pos)).2 = (s.data.toList.take pos).drop fr ∧ Txs (k + 1) w v (sp bl (s.data.toList.take pos)).1 ∧ Below B w0 w ∧ k + 1 ≤ w.heap.size

theorem WordsAt.len {s : ByteArray} {k B : Nat} {w0 : World} {pos fr : Nat} {v : Value} {w : World} (_h : WordsAt s k B w0 pos fr v w) : (sp bl (s.data.toList.take pos)).1.length ≤ s.size := by
  have := sp_length bl (s.data.toList.take pos)
  have h2 : (s.data.toList.take pos).length ≤ s.size := by rw [List.length_take, size_list]; omega
  omega

set_option maxHeartbeats 1000000 in
theorem words_any (s : ByteArray) (w : World) (hs : s.size < 100000) :
    Calls Tryd.prog 10 #[.string s] w fun e w' => ∃ v, e = .returned v ∧ Row vs w' w'.heap.size v (words s.data.toList) ∧ Below w.heap.size w w' := by
  have hl := size_list s
  go_enter Tryd.func10, Tryd.ntmps10
  go_wp2
  go_loopw [3, 4] (fun v f wr => ∃ pos fr : Nat, f = .int .i64 fr ∧ WordsAt s w.heap.size w.heap.size w pos fr v wr) (fun _ _ wr => s.size - wr.iterPos w.heap.size)
  case atStart => exact ⟨0, 0, rfl, Nat.le_refl _, Nat.zero_le _, by rw [World.iter_heap], by simp [sp], Txs.nil _ _, (Below.refl _ _).alloc (Nat.le_refl _) _, by simp [World.iter]⟩
  case round =>
    obtain ⟨pos, fr, rfl, hinv⟩ := hrel
    obtain ⟨h1, h2, hit, h4, h5, h6, h7⟩ := hinv
    have hlen := WordsAt.len ⟨h1, h2, hit, h4, h5, h6, h7⟩
    by_cases hp : pos < s.size
    · have hnx : ∀ ty, (Instr.next (.pointer (some ⟨w.heap.size, 0, none⟩)) true ty).run Tryd.prog wr = _ := fun ty => run_next_any_at wr w.heap.size s pos ty hit hp
      have hget := get_at s pos hp
      cases hb : bl (s[pos]'hp) with
      | true =>
        have ha : (s[pos]'hp).toNat < 128 := by
          rcases Nat.lt_or_ge (s[pos]'hp).toNat 128 with h | h
          · exact h
          · rw [bl_high h] at hb; cases hb
        rw [decode_ascii s pos hp ha] at hnx
        have hgl : s.data.toList[pos]'(by omega) = s[pos]'hp := by rw [← get_list s pos hp]; exact hget
        have hpl : pos < s.data.toList.length := by omega
        have HI := Lib.hid hit
        have h3 : (s[pos]'hp).toNat = 32 ∨ (s[pos]'hp).toNat = 9 ∨ (s[pos]'hp).toNat = 10 := by
          simp only [bl, Bool.or_eq_true, beq_iff_eq] at hb
          rcases hb with (h | h) | h <;> rw [h] <;> decide
        have HB := Lib.hid (sp_blank s.data.toList pos fr hpl (by rw [hgl]; exact hb) h1 h4)
        have hsl := bs_extract s fr pos
        clear hgl hb hget h4
        generalize (s[pos]'hp).toNat = c at *
        rcases h3 with rfl | rfl | rfl
        all_goals
          clear ha hit
          go_wp2_with (at_builtin; refine app_text rfl (.tmp 23) (.tmp 28) rfl (w.heap.size + 1) _ _ _ rfl rfl h5.iter (by rw [iterAt_size]; exact h7) (by omega) ?_; intro v' w2 h8 h9 h10)
          have hit2 : w2.heap[w.heap.size]? = some (.stringIter s (pos + 1)) := (h9.block _ (Nat.lt_succ_self _)).trans (iterAt_heap _ _ _ _ _ HI.out)
          go_roundw
          case rel => exact ⟨pos + 1, pos + 1, by go_num, Nat.le_refl _, by omega, hit2, HB.out.2, by rw [HB.out.1]; exact h8, (below_iterAt h6 (Nat.le_refl _) _ _).trans (h9.mono (Nat.le_succ _)), by have := h9.size; rw [iterAt_size] at this; omega⟩
          case measure => simp [World.iterPos, hit2, HI.out]; omega
      | false =>
        obtain ⟨k1, k2, k3, k4, k5, k6⟩ := dec_plain s pos hp hb
        have HB := Lib.hid (sp_rune s.data.toList pos fr _ k2 k3 h1 h4)
        have HI := Lib.hid hit
        clear hb hget h4 hit k3
        generalize (Utf8.decode s pos).2 = wd at *
        generalize (Utf8.decode s pos).1 = r at *
        go_wp2
        have hit2 : (wr.iterAt w.heap.size s (pos + wd)).heap[w.heap.size]? = some (.stringIter s (pos + wd)) := iterAt_heap _ _ _ _ _ HI.out
        go_roundw
        case rel => exact ⟨pos + wd, fr, rfl, by omega, by omega, hit2, HB.out.2, by rw [HB.out.1]; exact h5.iter, below_iterAt h6 (Nat.le_refl _) _ _, by rw [iterAt_size]; exact h7⟩
        case measure => simp [World.iterPos, hit2, HI.out]; omega
    · have hnx : ∀ ty, (Instr.next (.pointer (some ⟨w.heap.size, 0, none⟩)) true ty).run Tryd.prog wr = _ := fun ty => run_next_end_at wr w.heap.size s pos ty hit hp
      obtain rfl : pos = s.size := by omega
      have hsl := bs_extract s fr s.size
      have HP : Hid ((sp bl (s.data.toList.take s.size)).1 ++ [(s.data.toList.take s.size).drop fr] = pieces bl s.data.toList) := by
        show _ = _
        rw [← h4, List.take_of_length_le (by omega)]
        rfl
      clear h4 h2 hit
      go_wp2_with (at_builtin; refine app_text rfl (.tmp 32) (.tmp 36) rfl (w.heap.size + 1) _ _ _ rfl rfl h5 h7 (by omega) ?_; intro v' w2 h8 h9 h10)
      rw [HP.out] at h8
      have hne : pieces bl s.data.toList ≠ [] := by simp [pieces]
      obtain ⟨g, cap, rfl, q1, q2, q3, q4, q5⟩ := h8.shape hne
      have hz := h9.size
      refine (del_any 31 empty1_any (enters_of Tryd.func31 (by kernel_rfl) rfl) g cap (w.heap.size + 1) _ w2 q5 q1 q2 q3 q4).mono ?_
      rintro e w3 ⟨v3, rfl, hr, hb3⟩
      go_wp2_with fail
      go_ret
      exact ⟨_, rfl, hr, h6.trans ((h9.mono (Nat.le_succ _)).trans (hb3.mono (Nat.le_succ _)))⟩
end Go.Proofs.YtmnekomoiffebaaDoor
