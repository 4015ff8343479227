/- Rows of texts that a call owns; slices.DeleteFunc at 'is it empty'; the walk of name.Words. -/
import Derived.Test.YtmnekomoiffebaaDoorRows
import Derived.Test.YtmnekomoiffebaaDoorKit
import Derived.Test.YtmnekomoiffebaaDoorStr
import Derived.Test.YtmnekomoiffebaaDoorShelf
import Derived.Lib.OthersKept
namespace Go.Proofs.YtmnekomoiffebaaDoor
open Go.RowKit Go.Lib Go.Sort Tx

theorem strInfo : (Tryd.prog.info? 9).map (fun i => (i.zero, i.size, i.bytes)) = some (some (.string ⟨#[]⟩), 1, 16) := by kernel_rfl
instance : Inhabited Bs := ⟨[]⟩

/-- A row of texts that the call owns, behind block base. -/
def Txs (base : Nat) (w : World) (v : Value) (l : List Bs) : Prop := w.ownsRow base 9 1 v l.length (l.map vs)
theorem Txs.row {base : Nat} {w : World} {v : Value} {l : List Bs} (h : Txs base w v l) : Row vs w w.heap.size v l := Row.own h
theorem Txs.below {base : Nat} {w w' : World} {v : Value} {l : List Bs} (h : Txs base w v l) (hb : Below w.heap.size w w') : Txs base w' v l := own_below h hb
theorem Txs.mono {b base : Nat} {w : World} {v : Value} {l : List Bs} (h : Txs base w v l) (hb : b ≤ base) : Txs b w v l := ⟨h.1, h.2.imp id fun ⟨g, cap, cur, h1, h2, h3⟩ => ⟨g, cap, cur, h1, Nat.le_trans hb h2, h3⟩⟩
theorem Txs.keep {base : Nat} {w w' : World} {v : Value} {l : List Bs} (h : Txs base w v l) (hk : ∀ j, base ≤ j → j < w.heap.size → w'.heap[j]? = w.heap[j]?) : Txs base w' v l := by
  refine ⟨h.1, ?_⟩
  rcases h.2 with h2 | ⟨g, cap, cur, rfl, hbg, hg, rest⟩
  · exact .inl h2
  · exact .inr ⟨g, cap, cur, rfl, hbg, (hk g hbg (Array.getElem?_eq_some_iff.1 hg).1).trans hg, rest⟩
theorem Txs.iter {k : Nat} {w : World} {v : Value} {l : List Bs} {s : ByteArray} {p : Nat} (h : Txs (k + 1) w v l) : Txs (k + 1) (w.iterAt k s p) v l := h.keep fun j hj _ => iterAt_other w k j s p (by omega)
theorem Txs.nil (base : Nat) (w : World) : Txs base w (.slice none 0 0) [] := World.ownsRow_nil w base _ _
/-- 'out = append(out, x)': one text more. -/
theorem app_text {w0 : World} {ops : Array Oper} {rest : List Oper} {o : Oper} {a : Act} {Q : Exit → Act → World → Prop} (hgd : o.guard = none) (s x : Operand)
    (ho : o.op = .call { callee := .builtin .append, args := #[s, x], argTypes := #[23, 23] })
    (base : Nat) (v : Value) (l : List Bs) (u : Bs) (hs : a.eval s = v) (hx : a.eval x = .slice (some ⟨w0.heap.size, 0, none⟩) 1 1)
    (hown : Txs base w0 v l) (hb : base ≤ w0.heap.size) (hl : l.length < 1000000)
    (h : ∀ v' w', Txs base w' v' (l ++ [u]) → Below base w0 w' → w0.grownBy w' v.ownBlock → wpList Tryd.prog ops Q rest (a.put o.dst v') w') :
    wpList Tryd.prog ops Q (o :: rest) a (w0.alloc (.cells #[.string (bs u)] 9)) := by
  obtain ⟨i0, hi0, hz0, hz1, hz2⟩ := info_parts strInfo
  refine wpList_app1 hgd s x 23 ho base 9 i0 _ 16 Tryd.underlying23 hi0 hz0 hz1 hz2 rfl v l.length (l.map vs) (vs u) rfl hs hx hown hb (by simp only [maxLen]; omega) (by omega) ?_
  intro v' w' h1 h2 h3
  exact h v' w' (by simpa [Txs] using h1) h2 h3

theorem Txs.shape {base : Nat} {w : World} {v : Value} {l : List Bs} (h : Txs base w v l) (hne : l ≠ []) :
    ∃ g cap, v = .slice (some ⟨g, 0, none⟩) l.length cap ∧ base ≤ g ∧ g < w.heap.size ∧ l.length ≤ cap ∧ cap ≤ maxLen ∧ ∀ j (h : j < l.length), w.cell? ⟨g, j, none⟩ = some (vs l[j]) ∧ w.frozen? ⟨g, j, none⟩ = false := by
  rcases h.2 with ⟨_, hn⟩ | ⟨g, cap, cur, rfl, hb, hg, hnc, hcm, hcs, htake⟩
  · exact absurd (List.eq_nil_of_length_eq_zero hn) hne
  · refine ⟨g, cap, rfl, hb, (Array.getElem?_eq_some_iff.1 hg).1, hnc, hcm, fun j hj => ⟨?_, by simp [World.frozen?, hg]⟩⟩
    have h' : w.ownsRow base 9 1 (.slice (some ⟨g, 0, none⟩) l.length cap) l.length (l.map vs) := h
    rw [h'.cellAt j (by omega)]
    simp [hj]

theorem toList_bs (l : Bs) : (bs l).toList = l := by rw [ByteArray.toList_eq]; exact bs_list l

theorem empty1_any (x : Bs) (w : World) : Calls Tryd.prog 31 #[vs x] w fun e w' => e = .returned (.bool x.isEmpty) ∧ ∃ q, w' = w.drewN q := by
  unfold vs
  have hz := toList_bs x
  go_enter Tryd.func31, Tryd.ntmps31
  go_wp2
  all_goals go_ret
  all_goals exact ⟨rfl, 0, rfl⟩
theorem empty2_any (x : Bs) (w : World) : Calls Tryd.prog 46 #[vs x] w fun e w' => e = .returned (.bool x.isEmpty) ∧ ∃ q, w' = w.drewN q := by
  unfold vs
  have hz := toList_bs x
  go_enter Tryd.func46, Tryd.ntmps46
  go_wp2
  all_goals go_ret
  all_goals exact ⟨rfl, 0, rfl⟩

theorem putRow_below {α : Type} [Inhabited α] (enc : α → Value) (w : World) (q g off B : Nat) (d : Array α) (hg : B ≤ g) : Below B w (putRow enc (Sort.ahead w q) g off d) := by
  refine ⟨rfl, rfl, rfl, by simp [putRow, mapBlock, Sort.ahead], fun k hk => ?_⟩
  show (putRow enc (Sort.ahead w q) g off d).heap[k]? = _
  simp only [putRow, mapBlock, Sort.ahead]
  rw [Array.getElem?_modify, if_neg (by omega)]

/-- slices.DeleteFunc at a predicate that asks whether a text is empty. -/
theorem del_any (f : Nat) (hf : ∀ x w, Calls Tryd.prog f #[vs x] w fun e w' => e = .returned (.bool (List.isEmpty x)) ∧ ∃ q, w' = w.drewN q) (eg : ∀ args w, (callFunc f args).run Tryd.prog w = .ok (.enter f args) w)
    (g cap base : Nat) (l : List Bs) (w : World) (hc : ∀ j (h : j < l.length), w.cell? ⟨g, j, none⟩ = some (vs l[j]) ∧ w.frozen? ⟨g, j, none⟩ = false) (hg : base ≤ g) (hlt : g < w.heap.size) (hl : l.length ≤ cap) (hcap : cap ≤ maxLen) :
    Calls Tryd.prog 30 #[.slice (some ⟨g, 0, none⟩) l.length cap, .func (.func f) #[] #[]] w fun e w' => ∃ v, e = .returned v ∧ Row vs w' w'.heap.size v (ne l) ∧ Below base w w' := by
  have hp : PredAt Tryd.prog f #[] vs (fun x => List.isEmpty x) w := fun W x _ => hf x W
  have hpo : PredOver Tryd.prog f #[] vs (fun x => List.isEmpty x) g 0 l.toArray.size w := fun n os dk x _ => hf x _
  have hH : Holds vs w g 0 l.toArray := fun j hj => by
    have hj' : j < l.length := by simpa using hj
    rw [Nat.zero_add]
    refine ⟨?_, (hc j hj').2⟩
    rw [(hc j hj').1]
    congr 2
    rw [getElem!_pos l.toArray j hj]
    simp
  have h := Tryd.slices_DeleteFunc vs (fun _ => rfl) (fun x => List.isEmpty x) f #[] eg [] (fun _ => by kernel_rfl) g 0 cap l.toArray w hp hpo hH (by simp [maxLen] at hcap ⊢; omega) (by simpa using hl)
  simp only [List.size_toArray] at h
  refine h.mono ?_
  rintro e w' ⟨rfl, q, rfl⟩
  have hne : (l.filter fun x => !List.isEmpty x) = ne l := rfl
  have hnl := ne_length l
  rw [hne]
  refine ⟨_, rfl, ?_, putRow_below _ _ _ _ _ _ _ hg⟩
  refine Row.mk_at (by omega) hcap (by simpa [Sort.ahead] using hlt) (fun j hj => ?_)
  rw [cell?_putRow vs (Sort.ahead w q) g 0 l.toArray _ (holds_ahead vs w q g 0 _ hH) (by simp; omega) j (by simp; omega)]
  congr 2
  rw [getElem!_pos _ j (by simp; omega)]
  simp [List.getElem_append_left hj]
end Go.Proofs.YtmnekomoiffebaaDoor
