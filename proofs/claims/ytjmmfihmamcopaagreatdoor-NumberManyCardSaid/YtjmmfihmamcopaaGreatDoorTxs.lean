/- Rows of texts that a call owns. -/
import Derived.Test.YtjmmfihmamcopaaGreatDoorRows
import Derived.Test.YtjmmfihmamcopaaGreatDoorKit
import Derived.Test.YtjmmfihmamcopaaGreatDoorStr
import Derived.Lib.OthersKept
namespace Go.Proofs.YtjmmfihmamcopaaGreatDoor
open Go.RowKit Go.Lib Go.Sort Tx

theorem strInfo : (Tryz.prog.info? 9).map (fun i => (i.zero, i.size, i.bytes)) = some (some (.string ⟨#[]⟩), 1, 16) := by kernel_rfl
instance : Inhabited Bs := ⟨[]⟩

/-- A row of texts that the call owns, behind block base. -/
def Txs (base : Nat) (w : World) (v : Value) (l : List Bs) : Prop := w.ownsRow base 9 1 v l.length (l.map vs)
theorem Txs.row {base : Nat} {w : World} {v : Value} {l : List Bs} (h : Txs base w v l) : Row vs w w.heap.size v l := Row.own h
theorem Txs.below {base : Nat} {w w' : World} {v : Value} {l : List Bs} (h : Txs base w v l) (hb : Below w.heap.size w w') : Txs base w' v l := own_below h hb
theorem Txs.mono {b base : Nat} {w : World} {v : Value} {l : List Bs} (h : Txs base w v l) (hb : b ≤ base) : Txs b w v l := ⟨h.1, h.2.imp id fun ⟨g, cap, cur, h1, h2, h3⟩ => ⟨g, cap, cur, h1, Nat.le_trans hb h2, h3⟩⟩
theorem Txs.keep {base : Nat} {w w' : World} {v : Value} {l : List Bs} (h : Txs base w v l) (hk : ∀ j, base ≤ j → j < w.heap.size → w'.heap[j]? = w.heap[j]?) : Txs base w' v l := by
  refine ⟨h.1, ?_⟩
  rcases h.2 with h2 | ⟨g, cap, cur, rfl, hbg, hg, rest⟩
  · exact .inl h2
  · exact .inr ⟨g, cap, cur, rfl, hbg, (hk g hbg (Array.getElem?_eq_some_iff.1 hg).1).trans hg, rest⟩
theorem Txs.iter {k : Nat} {w : World} {v : Value} {l : List Bs} {s : ByteArray} {p : Nat} (h : Txs (k + 1) w v l) : Txs (k + 1) (w.iterAt k s p) v l := h.keep fun j hj _ => iterAt_other w k j s p (by omega)
theorem Txs.nil (base : Nat) (w : World) : Txs base w (.slice none 0 0) [] := World.ownsRow_nil w base _ _
/-- 'out = append(out, x)': one text more. -/
theorem app_text {w0 : World} {ops : Array Oper} {rest : List Oper} {o : Oper} {a : Act} {Q : Exit → Act → World → Prop} (hgd : o.guard = none) (s x : Operand)
    (ho : o.op = .call { callee := .builtin .append, args := #[s, x], argTypes := #[25, 25] })
    (base : Nat) (v : Value) (l : List Bs) (u : Bs) (hs : a.eval s = v) (hx : a.eval x = .slice (some ⟨w0.heap.size, 0, none⟩) 1 1)
    (hown : Txs base w0 v l) (hb : base ≤ w0.heap.size) (hl : l.length < 1000000)
    (h : ∀ v' w', Txs base w' v' (l ++ [u]) → Below base w0 w' → w0.grownBy w' v.ownBlock → wpList Tryz.prog ops Q rest (a.put o.dst v') w') :
    wpList Tryz.prog ops Q (o :: rest) a (w0.alloc (.cells #[.string (bs u)] 9)) := by
  obtain ⟨i0, hi0, hz0, hz1, hz2⟩ := info_parts strInfo
  refine wpList_app1 hgd s x 25 ho base 9 i0 _ 16 Tryz.underlying25 hi0 hz0 hz1 hz2 rfl v l.length (l.map vs) (vs u) rfl hs hx hown hb (by simp only [maxLen]; omega) (by omega) ?_
  intro v' w' h1 h2 h3
  exact h v' w' (by simpa [Txs] using h1) h2 h3

theorem Txs.shape {base : Nat} {w : World} {v : Value} {l : List Bs} (h : Txs base w v l) (hne : l ≠ []) :
    ∃ g cap, v = .slice (some ⟨g, 0, none⟩) l.length cap ∧ base ≤ g ∧ g < w.heap.size ∧ l.length ≤ cap ∧ cap ≤ maxLen ∧ ∀ j (h : j < l.length), w.cell? ⟨g, j, none⟩ = some (vs l[j]) ∧ w.frozen? ⟨g, j, none⟩ = false := by
  rcases h.2 with ⟨_, hn⟩ | ⟨g, cap, cur, rfl, hb, hg, hnc, hcm, hcs, htake⟩
  · exact absurd (List.eq_nil_of_length_eq_zero hn) hne
  · refine ⟨g, cap, rfl, hb, (Array.getElem?_eq_some_iff.1 hg).1, hnc, hcm, fun j hj => ⟨?_, by simp [World.frozen?, hg]⟩⟩
    have h' : w.ownsRow base 9 1 (.slice (some ⟨g, 0, none⟩) l.length cap) l.length (l.map vs) := h
    rw [h'.cellAt j (by omega)]
    simp [hj]

theorem toList_bs (l : Bs) : (bs l).toList = l := by rw [ByteArray.toList_eq]; exact bs_list l

end Go.Proofs.YtjmmfihmamcopaaGreatDoor
