/- What is parsed and shown, as plain laws: parsed again of what is shown of it, the words of its parts, words without blanks, names joined by and. -/
import Derived.Test.YtmnekomoiffebaaDoorKit
import Derived.Test.YtmnekomoiffebaaDoorStr
import Derived.Test.YtmnekomoiffebaaDoorNmW8
import Derived.Test.YtmnekomoiffebaaDoorNmS1
import Derived.Test.YtmnekomoiffebaaDoorNmS3
namespace Go.Proofs.YtmnekomoiffebaaDoor
open Go.RowKit Tx

namespace Tx
abbrev Clean (l : List Bs) : Prop := ∀ w ∈ l, w ≠ [] ∧ ∀ c ∈ w, bl c = false
/-- No comma in it. -/
abbrev Nc (l : List Bs) : Prop := ∀ w ∈ l, ∀ c ∈ w, cm c = false
theorem Clean.take {l : List Bs} (h : Clean l) (n : Nat) : Clean (l.take n) := fun w hw => h w (List.mem_of_mem_take hw)
theorem Clean.drop {l : List Bs} (h : Clean l) (n : Nat) : Clean (l.drop n) := fun w hw => h w (List.mem_of_mem_drop hw)
theorem Nc.take {l : List Bs} (h : Nc l) (n : Nat) : Nc (l.take n) := fun w hw => h w (List.mem_of_mem_take hw)
theorem Nc.drop {l : List Bs} (h : Nc l) (n : Nat) : Nc (l.drop n) := fun w hw => h w (List.mem_of_mem_drop hw)
theorem sp_sub (p : UInt8 → Bool) (l : Bs) : (∀ w ∈ (sp p l).1, ∀ c ∈ w, c ∈ l) ∧ ∀ c ∈ (sp p l).2, c ∈ l := by
  induction l using snoc_ind with
  | nil => simp [sp]
  | snoc l c ih =>
    cases h : p c with
    | true =>
      rw [sp_hit p l c h]
      refine ⟨fun w hw d hd => ?_, by simp⟩
      rcases List.mem_append.1 hw with hw | hw
      · exact List.mem_append_left _ (ih.1 w hw d hd)
      · simp at hw; subst hw; exact List.mem_append_left _ (ih.2 d hd)
    | false =>
      rw [sp_miss p l c h]
      refine ⟨fun w hw d hd => List.mem_append_left _ (ih.1 w hw d hd), fun d hd => ?_⟩
      rcases List.mem_append.1 hd with hd | hd
      · exact List.mem_append_left _ (ih.2 d hd)
      · simp at hd; subst hd; simp
theorem words_sub (l w : Bs) (hw : w ∈ words l) : ∀ c ∈ w, c ∈ l := by
  have h := (List.mem_filter.1 hw).1
  rcases List.mem_append.1 h with h | h
  · exact (sp_sub bl l).1 w h
  · simp at h; subst h; exact (sp_sub bl l).2
theorem words_nc (l : Bs) (h : ∀ c ∈ l, cm c = false) : Nc (words l) := fun w hw c hc => h c (words_sub l w hw c hc)
theorem join_nc (l : List Bs) (h : Nc l) : ∀ c ∈ join l, cm c = false := by
  induction l with
  | nil => simp [join_nil]
  | cons a l ih =>
    have ha := h a (List.mem_cons_self ..)
    cases l with
    | nil => rw [join_one]; exact ha
    | cons b l =>
      rw [join_cons]
      intro c hc
      rcases List.mem_append.1 hc with hc | hc
      · exact ha c hc
      · rcases List.mem_cons.1 hc with rfl | hc
        · rfl
        · exact ih (fun w hw => h w (List.mem_cons_of_mem _ hw)) c hc
theorem words_sp (m : Bs) (c : UInt8) (h : bl c = true) : words (c :: m) = words m := by
  have := words_hit [] m c h
  simpa [words_nil] using this
theorem words_end (l : Bs) (c : UInt8) (h : bl c = true) : words (l ++ [c]) = words l := by
  have := words_hit l [] c h
  simpa [words_nil] using this

theorem lastUp_drop (l : List Bs) (f : Nat) : ∀ n, f < lastUp l n → lastUp (l.drop f) (n - f) = lastUp l n - f := by
  intro n
  induction n with
  | zero => intro h; simp [lastUp] at h
  | succ n ih =>
    intro h
    have hle := lastUp_le l (n + 1)
    have hf : f ≤ n := by omega
    rw [show n + 1 - f = (n - f) + 1 by omega]
    unfold lastUp at h ⊢
    rw [List.getElem?_drop, show f + (n - f) = n by omega]
    split
    · omega
    · rename_i hs
      rw [if_neg hs] at h
      exact ih h
theorem lastS_drop (l : List Bs) (f : Nat) (h : f < lastS l) : lastS (l.drop f) = lastS l - f := by
  unfold lastS at h ⊢
  rw [List.length_drop, show l.length - f - 1 = l.length - 1 - f by omega]
  exact lastUp_drop l f _ h

/-- A person of lists of words. -/
def per (F V L J : List Bs) : P4 := ⟨join F, join V, join L, join J⟩
theorem show_words (V L : List Bs) (hV : Clean V) (hL : Clean L) : words ((if join V = [] then [] else join V ++ [32]) ++ join L) = V ++ L := by
  by_cases h : V = []
  · subst h
    rw [join_nil, if_pos rfl, List.nil_append, words_join L hL]; rfl
  · rw [if_neg (join_ne V h fun x hx => (hV x hx).1), List.append_assoc, List.singleton_append, words_hit _ _ _ rfl, words_join V hV, words_join L hL]
theorem show_nc (V L : List Bs) (hV : Nc V) (hL : Nc L) : ∀ c ∈ (if join V = [] then [] else join V ++ [32]) ++ join L, cm c = false := by
  intro c hc
  rcases List.mem_append.1 hc with hc | hc
  · split at hc
    · simp at hc
    · rcases List.mem_append.1 hc with hc | hc
      · exact join_nc V hV c hc
      · simp at hc; subst hc; rfl
  · exact join_nc L hL c hc
theorem sp_nc (F : List Bs) (hF : Nc F) : ∀ c ∈ 32 :: join F, cm c = false := by
  intro c hc
  rcases List.mem_cons.1 hc with rfl | hc
  · rfl
  · exact join_nc F hF c hc
theorem back_per (F V L J : List Bs) (hF : Clean F) (hV : Clean V) (hL : Clean L) (hJ : Clean J) (nF : Nc F) (nV : Nc V) (nL : Nc L) (nJ : Nc J) (hs : lastS (V ++ L) = V.length) :
    parse (showS (per F V L J)) = per F V L J := by
  have hw := show_words V L hV hL
  have hx := show_nc V L nV nL
  unfold showS per
  simp only
  generalize (if join V = [] then [] else join V ++ [32]) = A at *
  by_cases h : J = []
  · subst h
    rw [join_nil, if_pos rfl]
    have e : A ++ (join L ++ [44, 32]) ++ [] ++ join F = (A ++ join L) ++ 44 :: (32 :: join F) := by simp
    have hp : pieces cm (A ++ (join L ++ [44, 32]) ++ [] ++ join F) = [A ++ join L, 32 :: join F] := by
      rw [e, pieces_hit cm _ _ _ rfl, pieces_none cm _ hx, pieces_none cm _ (sp_nc F nF)]; rfl
    rw [parse_two hp, hw, hs, words_sp _ _ rfl, words_join F hF]
    simp
  · rw [if_neg (join_ne J h fun x hx => (hJ x hx).1)]
    have e : A ++ (join L ++ [44, 32]) ++ (join J ++ [44, 32]) ++ join F = (A ++ join L) ++ 44 :: ((32 :: join J) ++ 44 :: (32 :: join F)) := by simp
    have hp : pieces cm (A ++ (join L ++ [44, 32]) ++ (join J ++ [44, 32]) ++ join F) = [A ++ join L, 32 :: join J, 32 :: join F] := by
      rw [e, pieces_hit cm _ _ _ rfl, pieces_hit cm _ _ _ rfl, pieces_none cm _ hx, pieces_none cm _ (sp_nc F nF), pieces_none cm _ (sp_nc J nJ)]; rfl
    rw [parse_more hp, hw, hs, words_sp _ _ rfl, words_sp _ _ rfl, words_join F hF, words_join J hJ]
    simp

/-- What any text is parsed to: lists of its words, of which the first ones and the last ones are apart at the last small word. -/
theorem parse_per (s : Bs) : ∃ F V L J, parse s = per F V L J ∧ (Clean F ∧ Clean V ∧ Clean L ∧ Clean J) ∧ (Nc F ∧ Nc V ∧ Nc L ∧ Nc J) ∧ lastS (V ++ L) = V.length ∧
    F.length + V.length + L.length + J.length = (match pieces cm s with | [] => 0 | [a] => (words a).length | [a, b] => (words a).length + (words b).length | a :: b :: c :: _ => (words a).length + (words b).length + (words c).length) := by
  have hc := pieces_clean cm s
  have hnil : Clean [] ∧ Nc [] := ⟨fun w hw => absurd hw (by simp), fun w hw => absurd hw (by simp)⟩
  match hp : pieces cm s with
  | [] => exact absurd hp (by simp [pieces])
  | [a] =>
    rw [hp] at hc
    have hn := words_nc a (hc a (by simp))
    have hcl : Clean (words a) := words_clean a
    rw [parse_one hp]
    simp only
    unfold parse1
    by_cases h0 : words a = []
    · rw [if_pos h0, h0]
      exact ⟨[], [], [], [], rfl, ⟨hnil.1, hnil.1, hnil.1, hnil.1⟩, ⟨hnil.2, hnil.2, hnil.2, hnil.2⟩, rfl, rfl⟩
    · rw [if_neg h0]
      have hpos := List.length_pos_iff.2 h0
      generalize words a = W at *
      by_cases hl : lastS W = 0
      · rw [if_pos hl]
        have hx : W[W.length - 1]?.getD [] = W[W.length - 1]'(by omega) := by rw [List.getElem?_eq_getElem (by omega)]; rfl
        have hm : W[W.length - 1]'(by omega) ∈ W := List.getElem_mem _
        refine ⟨W.take (W.length - 1), [], [W[W.length - 1]'(by omega)], [], ?_, ⟨hcl.take _, hnil.1, ?_, hnil.1⟩, ⟨hn.take _, hnil.2, ?_, hnil.2⟩, rfl, ?_⟩
        · rw [hx]; unfold per; rw [join_one, join_nil]
        · intro w hw; simp at hw; subst hw; exact hcl _ hm
        · intro w hw; simp at hw; subst hw; exact hn _ hm
        · simp; omega
      · rw [if_neg hl]
        obtain ⟨h1, h2⟩ := firstS_ok W hl
        have e : (W.drop (firstS W)).take (lastS W - firstS W) ++ W.drop (lastS W) = W.drop (firstS W) := by
          conv => rhs; rw [← List.take_append_drop (lastS W - firstS W) (W.drop (firstS W))]
          rw [List.drop_drop, show firstS W + (lastS W - firstS W) = lastS W by omega]
        refine ⟨W.take (firstS W), (W.drop (firstS W)).take (lastS W - firstS W), W.drop (lastS W), [], rfl, ⟨hcl.take _, (hcl.drop _).take _, hcl.drop _, hnil.1⟩, ⟨hn.take _, (hn.drop _).take _, hn.drop _, hnil.2⟩, ?_, ?_⟩
        · rw [e, lastS_drop W _ h1]; simp; omega
        · simp; omega
  | [a, b] =>
    rw [hp] at hc
    have na := words_nc a (hc a (by simp))
    have nb := words_nc b (hc b (by simp))
    have ha : Clean (words a) := words_clean a
    have hb : Clean (words b) := words_clean b
    rw [parse_two hp]
    simp only
    generalize words a = W at *
    have hle := lastS_le W
    refine ⟨words b, W.take (lastS W), W.drop (lastS W), [], rfl, ⟨hb, ha.take _, ha.drop _, hnil.1⟩, ⟨nb, na.take _, na.drop _, hnil.2⟩, ?_, ?_⟩
    · rw [List.take_append_drop]; simp; omega
    · simp; omega
  | a :: b :: c :: r =>
    rw [hp] at hc
    have na := words_nc a (hc a (by simp))
    have nb := words_nc b (hc b (by simp))
    have nc := words_nc c (hc c (by simp))
    have ha : Clean (words a) := words_clean a
    have hb : Clean (words b) := words_clean b
    have hcc : Clean (words c) := words_clean c
    rw [parse_more hp]
    simp only
    generalize words a = W at *
    have hle := lastS_le W
    refine ⟨words c, W.take (lastS W), W.drop (lastS W), words b, rfl, ⟨hcc, ha.take _, ha.drop _, hb⟩, ⟨nc, na.take _, na.drop _, nb⟩, ?_, ?_⟩
    · rw [List.take_append_drop]; simp; omega
    · simp; omega
theorem parse_back (s : Bs) : parse (showS (parse s)) = parse s := by
  obtain ⟨F, V, L, J, h, ⟨h1, h2, h3, h4⟩, ⟨n1, n2, n3, n4⟩, hs, _⟩ := parse_per s
  rw [h]
  exact back_per F V L J h1 h2 h3 h4 n1 n2 n3 n4 hs

/-- A text with blanks for its commas, up to the third one. -/
def bkS (s : Nat × Bs) (c : UInt8) : Nat × Bs := if cm c then (s.1 + 1, if s.1 + 1 < 3 then s.2 ++ [32] else s.2) else (s.1, if s.1 < 3 then s.2 ++ [c] else s.2)
def bk (l : Bs) : Nat × Bs := l.foldl bkS (0, [])
theorem bk_snoc (l : Bs) (c : UInt8) : bk (l ++ [c]) = bkS (bk l) c := by simp [bk, List.foldl_append]
def bkOf (s : List Bs × Bs) : Bs := match s.1 with | [] => s.2 | [a] => a ++ 32 :: s.2 | [a, b] => a ++ 32 :: (b ++ 32 :: s.2) | a :: b :: c :: _ => a ++ 32 :: (b ++ 32 :: c)
theorem bk_sp (l : Bs) : bk l = ((sp cm l).1.length, bkOf (sp cm l)) := by
  induction l using snoc_ind with
  | nil => rfl
  | snoc l c ih =>
    rw [bk_snoc, ih]
    cases h : cm c with
    | true =>
      rw [sp_hit cm l c h]
      unfold bkS bkOf
      rw [if_pos h]
      match (sp cm l).1 with
      | [] => simp
      | [a] => simp
      | [a, b] => simp
      | a :: b :: d :: r => simp
    | false =>
      rw [sp_miss cm l c h]
      unfold bkS bkOf
      simp only [h, Bool.false_eq_true, if_false]
      match (sp cm l).1 with
      | [] => simp
      | [a] => simp
      | [a, b] => simp
      | a :: b :: d :: r => simp
theorem parse_count (s : Bs) : (words (parse s).first).length + (words (parse s).von).length + (words (parse s).last).length + (words (parse s).jr).length = (words (bk s).2).length := by
  obtain ⟨F, V, L, J, h, ⟨h1, h2, h3, h4⟩, _, _, hn⟩ := parse_per s
  rw [h, bk_sp]
  simp only [per]
  rw [words_join F h1, words_join V h2, words_join L h3, words_join J h4, hn]
  unfold pieces bkOf
  match (sp cm s).1 with
  | [] => simp
  | [a] => simp [words_hit a _ 32 rfl]
  | [a, b] => simp [words_hit a _ 32 rfl, words_hit b _ 32 rfl, Nat.add_assoc]
  | a :: b :: d :: r => simp [words_hit a _ 32 rfl, words_hit b _ 32 rfl, Nat.add_assoc]
theorem bk_length (l : Bs) : (bk l).2.length ≤ l.length ∧ (bk l).1 ≤ l.length := by
  induction l using snoc_ind with
  | nil => simp [bk]
  | snoc l c ih =>
    rw [bk_snoc]
    unfold bkS
    split
    · simp only [List.length_append, List.length_singleton]
      split <;> (try simp) <;> omega
    · simp only [List.length_append, List.length_singleton]
      split <;> (try simp) <;> omega

/-- What is left without blanks. -/
def dense (l : Bs) : Bs := l.filter fun c => !bl c
theorem sp_dense (l : Bs) : (sp bl l).1.flatten ++ (sp bl l).2 = dense l := by
  unfold dense
  induction l using snoc_ind with
  | nil => rfl
  | snoc l c ih =>
    rw [List.filter_append, ← ih]
    cases h : bl c with
    | true => rw [sp_hit bl l c h]; simp [h]
    | false => rw [sp_miss bl l c h]; simp [h]
theorem ne_flat (l : List Bs) : (ne l).flatten = l.flatten := by
  induction l with
  | nil => rfl
  | cons a l ih => rw [ne_cons]; split <;> simp_all
theorem words_flat (l : Bs) : (words l).flatten = dense l := by
  unfold words
  rw [ne_flat, ← sp_dense]
  simp [pieces]
theorem dense_snoc (l : Bs) (c : UInt8) : dense (l ++ [c]) = if bl c then dense l else dense l ++ [c] := by
  unfold dense
  rw [List.filter_append]
  cases h : bl c <;> simp [h]
theorem dense_length (l : Bs) : (dense l).length ≤ l.length := List.length_filter_le _ _

/-- Names in front of others. -/
theorem foldA_front (m : List Bs) : ∀ (o x c : List Bs), (m.foldl stA (o ++ x, c)) = (o ++ (m.foldl stA (x, c)).1, (m.foldl stA (x, c)).2) := by
  induction m with
  | nil => intro o x c; rfl
  | cons a m ih =>
    intro o x c
    rw [List.foldl_cons, List.foldl_cons]
    unfold stA
    by_cases ha : a = andW
    · rw [if_pos ha, if_pos ha]
      by_cases hc : c = []
      · rw [if_pos hc, if_pos hc]; exact ih o x []
      · rw [if_neg hc, if_neg hc, List.append_assoc]; exact ih o _ []
    · rw [if_neg ha, if_neg ha]; exact ih o x _
theorem finA_front (o x c : List Bs) : finA (o ++ x, c) = o ++ finA (x, c) := by
  unfold finA
  by_cases h : c = [] <;> simp [h]
theorem splitN_and (l m : List Bs) : splitN (l ++ andW :: m) = splitN l ++ splitN m := by
  unfold splitN
  rw [List.foldl_append, List.foldl_cons]
  have e : stA (l.foldl stA ([], [])) andW = (finA (l.foldl stA ([], [])) ++ [], []) := by
    unfold stA finA
    rw [if_pos rfl, List.append_nil]
  rw [e, foldA_front, finA_front]
theorem split_and (s t : Bs) : splitN (words (s ++ 32 :: 97 :: 110 :: 100 :: 32 :: t)) = splitN (words s) ++ splitN (words t) := by
  have e : words (97 :: 110 :: 100 :: 32 :: t) = andW :: words t := by
    have h := words_hit [97, 110, 100] t 32 rfl
    have h2 : words [97, 110, 100] = [andW] := words_one _ (by simp) (by decide)
    rw [h2] at h
    exact h
  rw [words_hit s _ 32 rfl, e, splitN_and]

/-- Small letters. -/
def low (l : Bs) : Bs := l.map lowr
theorem lowr_bl (c : UInt8) : bl (lowr c) = bl c := by
  by_cases h : 65 ≤ c.toNat ∧ c.toNat ≤ 90
  · have h1 := lowr_yes c h.1 h.2
    have f : ∀ d : UInt8, 65 ≤ d.toNat → bl d = false := by
      intro d hd
      simp only [bl, Bool.or_eq_false_iff, beq_eq_false_iff_ne]
      refine ⟨⟨?_, ?_⟩, ?_⟩ <;> rintro rfl <;> simp at hd
    rw [f c h.1, f _ (by omega)]
  · rw [lowr_no c h]
theorem lowr_twice (c : UInt8) : lowr (lowr c) = lowr c := by
  by_cases h : 65 ≤ c.toNat ∧ c.toNat ≤ 90
  · have h1 := lowr_yes c h.1 h.2
    rw [lowr_no (lowr c) (by omega)]
  · rw [lowr_no c h, lowr_no c h]
theorem low_low (l : Bs) : low (low l) = low l := by
  unfold low
  rw [List.map_map]
  exact List.map_congr_left fun c _ => lowr_twice c
theorem lowr_plain (c : UInt8) : ¬ (65 ≤ (lowr c).toNat ∧ (lowr c).toNat ≤ 90) := by
  by_cases h : 65 ≤ c.toNat ∧ c.toNat ≤ 90
  · have h1 := lowr_yes c h.1 h.2
    omega
  · rw [lowr_no c h]; exact h
theorem sp_low (l : Bs) : sp bl (low l) = ((sp bl l).1.map low, low (sp bl l).2) := by
  induction l using snoc_ind with
  | nil => rfl
  | snoc l c ih =>
    have e : low (l ++ [c]) = low l ++ [lowr c] := by simp [low]
    rw [e]
    cases h : bl c with
    | true => rw [sp_hit bl l c h, sp_hit bl _ _ (by rw [lowr_bl]; exact h), ih]; simp [low]
    | false => rw [sp_miss bl l c h, sp_miss bl _ _ (by rw [lowr_bl]; exact h), ih]; simp [low]
theorem words_low (l : Bs) : words (low l) = (words l).map low := by
  unfold words pieces
  rw [sp_low]
  simp only [ne_append, ne_one, List.map_append]
  have h1 : ∀ m : List Bs, ne (m.map low) = (ne m).map low := by
    intro m
    induction m with
    | nil => rfl
    | cons a m ih =>
      rw [List.map_cons, ne_cons, ne_cons, ih]
      cases a <;> simp [low]
  rw [h1]
  cases (sp bl l).2 <;> simp [low]
theorem join_low (l : List Bs) : join (l.map low) = low (join l) := by
  induction l with
  | nil => rfl
  | cons a l ih =>
    cases l with
    | nil => simp [join_one]
    | cons b l =>
      rw [List.map_cons, List.map_cons, join_cons, ← List.map_cons, ih, join_cons]
      simp only [low, List.map_append, List.map_cons]
      rfl
theorem keyS_eq (p : P4) : keyS p = low (join (words (keyT p))) := rfl
theorem key_low (p : P4) : keyS ⟨low p.first, low p.von, low p.last, low p.jr⟩ = keyS p := by
  rw [keyS_eq, keyS_eq]
  have e : keyT ⟨low p.first, low p.von, low p.last, low p.jr⟩ = low (keyT p) := by
    simp only [keyT, low, List.map_append]
    rfl
  rw [e, words_low, join_low, low_low]
theorem low_key (p : P4) : low (keyS p) = keyS p := by rw [keyS_eq, low_low]
theorem keyT_words (p : P4) : words (keyT p) = words p.last ++ (words p.first ++ (words p.von ++ words p.jr)) := by
  have e : keyT p = p.last ++ 32 :: (p.first ++ 32 :: (p.von ++ 32 :: p.jr)) := by simp [keyT]
  rw [e, words_hit _ _ _ rfl, words_hit _ _ _ rfl, words_hit _ _ _ rfl]
theorem key_words (p q : P4) (h1 : words p.first = words q.first) (h2 : words p.von = words q.von) (h3 : words p.last = words q.last) (h4 : words p.jr = words q.jr) : keyS p = keyS q := by
  rw [keyS_eq, keyS_eq, keyT_words, keyT_words, h1, h2, h3, h4]
theorem key_count (p : P4) : (words (keyS p)).length = (words (p.first ++ 32 :: (p.von ++ 32 :: (p.last ++ 32 :: p.jr)))).length := by
  rw [keyS_eq, words_low, words_join _ (words_clean _), keyT_words, words_hit _ _ _ rfl, words_hit _ _ _ rfl, words_hit _ _ _ rfl]
  simp; omega
theorem key_wide (p : P4) : keyS ⟨32 :: (p.first ++ [9]), 10 :: (p.von ++ [32]), 32 :: 32 :: p.last, p.jr ++ [32]⟩ = keyS p := by
  apply key_words
  · show words (32 :: (p.first ++ [9])) = _
    rw [words_sp _ _ rfl, words_end _ _ rfl]
  · show words (10 :: (p.von ++ [32])) = _
    rw [words_sp _ _ rfl, words_end _ _ rfl]
  · show words (32 :: 32 :: p.last) = _
    rw [words_sp _ _ rfl, words_sp _ _ rfl]
  · show words (p.jr ++ [32]) = _
    rw [words_end _ _ rfl]
theorem key_plain (p : P4) : ∀ c ∈ keyS p, ¬ (65 ≤ c.toNat ∧ c.toNat ≤ 90) := by
  intro c hc
  rw [keyS_eq] at hc
  obtain ⟨d, _, rfl⟩ := List.mem_map.1 hc
  exact lowr_plain d

/-- A word of letters. -/
structure Wd (w : Bs) : Prop where
  ne : w ≠ []
  bl : ∀ c ∈ w, bl c = false
  cm : ∀ c ∈ w, cm c = false
theorem Wd.words {w : Bs} (h : Wd w) : words w = [w] := words_one w h.ne h.bl
section
variable {a v b : Bs} (ha : Wd a) (hv : Wd v) (hb : Wd b)
include ha hb
theorem nc_two : ∀ c ∈ a ++ 32 :: b, Tx.cm c = false := by
  intro c hc
  rcases List.mem_append.1 hc with hc | hc
  · exact ha.cm c hc
  · rcases List.mem_cons.1 hc with rfl | hc
    · rfl
    · exact hb.cm c hc
theorem form_two (sa : sm a = false) : parse (a ++ 32 :: b) = ⟨a, [], b, []⟩ := by
  rw [parse_one (pieces_none Tx.cm _ (nc_two ha hb)), words_hit _ _ _ rfl, ha.words, hb.words]
  have hl : lastS ([a] ++ [b]) = 0 := by simp [lastS, lastUp, sa]
  unfold parse1
  rw [if_neg (by simp), if_pos hl]
  simp [join_one]
theorem form_back : parse (b ++ 44 :: a) = ⟨a, [], b, []⟩ := by
  have hp : pieces Tx.cm (b ++ 44 :: a) = [b, a] := by
    rw [pieces_hit Tx.cm _ _ _ rfl, pieces_none Tx.cm b hb.cm, pieces_none Tx.cm a ha.cm]; rfl
  rw [parse_two hp, ha.words, hb.words]
  simp [lastS, lastUp, join_one, join_nil]
include hv
theorem nc_three : ∀ c ∈ a ++ 32 :: (v ++ 32 :: b), Tx.cm c = false := by
  intro c hc
  rcases List.mem_append.1 hc with hc | hc
  · exact ha.cm c hc
  · rcases List.mem_cons.1 hc with rfl | hc
    · rfl
    · exact nc_two hv hb c hc
theorem form_three (sa : sm a = false) (sv : sm v = true) : parse (a ++ 32 :: (v ++ 32 :: b)) = ⟨a, v, b, []⟩ := by
  rw [parse_one (pieces_none Tx.cm _ (nc_three ha hv hb)), words_hit _ _ _ rfl, words_hit _ _ _ rfl, ha.words, hb.words, hv.words]
  have hl : lastS ([a] ++ ([v] ++ [b])) = 2 := by simp [lastS, lastUp, sv]
  have hf : firstS ([a] ++ ([v] ++ [b])) = 1 := by simp [firstS, List.findIdx_cons, sa, sv]
  unfold parse1
  rw [if_neg (by simp), if_neg (by rw [hl]; omega), hl, hf]
  simp [join_one]
theorem form_comma (sv : sm v = true) : parse (v ++ 32 :: (b ++ 44 :: 32 :: a)) = ⟨a, v, b, []⟩ := by
  have hp : pieces Tx.cm (v ++ 32 :: (b ++ 44 :: 32 :: a)) = [v ++ 32 :: b, 32 :: a] := by
    have e : v ++ 32 :: (b ++ 44 :: 32 :: a) = (v ++ 32 :: b) ++ 44 :: (32 :: a) := by simp
    rw [e, pieces_hit Tx.cm _ _ _ rfl, pieces_none Tx.cm _ (nc_two hv hb), pieces_none Tx.cm (32 :: a) (by
      intro c hc
      rcases List.mem_cons.1 hc with rfl | hc
      · rfl
      · exact ha.cm c hc)]; rfl
  rw [parse_two hp, words_sp _ _ rfl, words_hit _ _ _ rfl, ha.words, hb.words, hv.words]
  simp [lastS, lastUp, join_one, sv]
theorem form_short : shortS ⟨a, v, b, []⟩ = a.take 1 ++ 46 :: 32 :: (v ++ 32 :: b) := by
  unfold shortS
  simp only
  rw [ha.words, ne_cons, ne_cons, ne_cons, if_neg hv.ne, if_neg hb.ne, if_pos rfl]
  simp only [ne, List.filter_nil, List.map_cons, List.map_nil, List.singleton_append]
  rw [join_cons, join_cons, join_one]
  simp [ini]
end
end Tx
end Go.Proofs.YtmnekomoiffebaaDoor
