/- Calls of both disks, beside whatever else the call owns: one lemma a method. -/
import Derived.Test.YtienbgfmhllgmaaRows
import Derived.Test.YtienbgfmhllgmaaKit
import Derived.Test.YtienbgfmhllgmaaSep
import Derived.Test.YtienbgfmhllgmaaDk5
import Derived.Test.YtienbgfmhllgmaaDk8
import Derived.Test.YtienbgfmhllgmaaDr1
import Derived.Test.YtienbgfmhllgmaaDr2
import Derived.Test.YtienbgfmhllgmaaDr3
import Derived.Test.YtienbgfmhllgmaaDr4
import Derived.Test.YtienbgfmhllgmaaDr5
import Derived.Test.YtienbgfmhllgmaaDr6
import Derived.Test.YtienbgfmhllgmaaDr6b
namespace Go.Proofs.Ytienbgfmhllgmaa
open Go.RowKit

section
variable {B : Nat} {w0 w : World} {a : Nat} {s : Dk.St} {t : Rd.St} {Q : HP}
theorem oWrite (r : Int) (i : Int) (u : ByteArray) (h : HP.Own B w0 w (Dk.part a s ⊗ Q)) (hp : s.pend.length < 1000000) (ht : u.size < 1000000) (hi : (Lit.int .i64 i).wf = true) (hr : (Dk.write s i u).1 = r) :
    Calls Try.prog 9 #[.pointer (some ⟨a, 0, none⟩), .int .i64 i, .string u] w fun e w' => e = .returned (.int .i64 r) ∧ HP.Own B w0 w' (Dk.part a (Dk.write s i u).2 ⊗ Q) :=
  HP.call h fun F hF _ => hr ▸ dWrite_any a s F i u w hF hp ht hi
theorem oSync (r : Int) (h : HP.Own B w0 w (Dk.part a s ⊗ Q)) (hp : s.pend.length + s.cnt < 1000000) (hr : (Dk.sync s).1 = r) :
    Calls Try.prog 10 #[.pointer (some ⟨a, 0, none⟩)] w fun e w' => e = .returned (.int .i64 r) ∧ HP.Own B w0 w' (Dk.part a (Dk.sync s).2 ⊗ Q) :=
  HP.call h fun F hF _ => hr ▸ dSync_any a s F w hF hp
theorem oLimit (n : Int) (hn : (Lit.int .i64 n).wf = true) (h : HP.Own B w0 w (Dk.part a s ⊗ Q)) :
    Calls Try.prog 12 #[.pointer (some ⟨a, 0, none⟩), .int .i64 n] w fun e w' => e = .returned (.tuple #[]) ∧ HP.Own B w0 w' (Dk.part a { s with lim := some n } ⊗ Q) :=
  HP.call h fun F hF _ => dLimit_any a s F n hn w hF
theorem oCrash (v : Value) (ks : List Bool) (h : HP.Own B w0 w (Dk.part a s ⊗ Q)) (hp : s.pend.length + s.cnt < 1000000) (hr : Row Value.bool w B v ks) :
    Calls Try.prog 13 #[.pointer (some ⟨a, 0, none⟩), v] w fun e w' => e = .returned (.tuple #[]) ∧ HP.Own B w0 w' (Dk.part a (Dk.crash s ks) ⊗ Q) :=
  HP.call h fun F hF hB => dCrash_any a s F v ks w hF hp fun _ hm => ⟨B, row_low_keep hr h.size hB hm⟩
theorem oRead (r : ByteArray × Int) (i : Int) (h : HP.Own B w0 w (Dk.part a s ⊗ Q)) (hp : s.pend.length < 1000000) (hi : (Lit.int .i64 i).wf = true) (hr : Dk.read s i = r) :
    Calls Try.prog 14 #[.pointer (some ⟨a, 0, none⟩), .int .i64 i] w fun e w' => e = .returned (.tuple #[.string r.1, .int .i64 r.2]) ∧ Below w.heap.size w w' :=
  HP.look h fun F hF => hr ▸ dRead_any a s F i w hF hp hi
theorem oPending (h : HP.Own B w0 w (Dk.part a s ⊗ Q)) :
    Calls Try.prog 11 #[.pointer (some ⟨a, 0, none⟩)] w fun e w' => e = .returned (.int .i64 s.pend.length) ∧ w = w' :=
  HP.look h fun F hF => dPending_any a s F w hF
theorem oLen (h : HP.Own B w0 w (Dk.part a s ⊗ Q)) :
    Calls Try.prog 26 #[.pointer (some ⟨a, 0, none⟩)] w fun e w' => e = .returned (.int .i64 s.n) ∧ w = w' :=
  HP.look h fun F hF => by
    obtain ⟨l, bm, pv, h1, _⟩ := hF
    have c2 : w.cell? ⟨a, 2, none⟩ = some (.int .i64 s.n) := by rw [Dk.cell_of h1]; rfl
    clear h1 h
    go_enter Try.func26, Try.ntmps26
    go_wp2
    go_ret
    exact ⟨rfl, rfl⟩

theorem orWrite (r : Int) (i : Int) (u : ByteArray) (h : HP.Own B w0 w (Rd.part a t ⊗ Q)) (hp : t.pend.length < 1000000) (ht : u.size < 1000000) (hi : (Lit.int .i64 i).wf = true) (hr : (Rd.write t i u).1 = r) :
    Calls Try.prog 29 #[.pointer (some ⟨a, 0, none⟩), .int .i64 i, .string u] w fun e w' => e = .returned (.int .i64 r) ∧ HP.Own B w0 w' (Rd.part a (Rd.write t i u).2 ⊗ Q) :=
  HP.call h fun F hF _ => hr ▸ rWrite_any a t F i u w hF hp ht hi
theorem orSync (r : Int) (h : HP.Own B w0 w (Rd.part a t ⊗ Q)) (hp : t.pend.length < 1000000) (hr : (Rd.sync t).1 = r) :
    Calls Try.prog 30 #[.pointer (some ⟨a, 0, none⟩)] w fun e w' => e = .returned (.int .i64 r) ∧ HP.Own B w0 w' (Rd.part a (Rd.sync t).2 ⊗ Q) :=
  HP.call h fun F hF _ => hr ▸ rSync_any a t F w hF hp
theorem orLimit (n : Int) (hn : (Lit.int .i64 n).wf = true) (h : HP.Own B w0 w (Rd.part a t ⊗ Q)) :
    Calls Try.prog 31 #[.pointer (some ⟨a, 0, none⟩), .int .i64 n] w fun e w' => e = .returned (.tuple #[]) ∧ HP.Own B w0 w' (Rd.part a (Rd.limit t n) ⊗ Q) :=
  HP.call h fun F hF _ => rLimit_any a t F n hn w hF
theorem orCrash (v : Value) (ks : List Bool) (h : HP.Own B w0 w (Rd.part a t ⊗ Q)) (hp : t.pend.length < 1000000) (hr : Row Value.bool w B v ks) :
    Calls Try.prog 21 #[.pointer (some ⟨a, 0, none⟩), v] w fun e w' => e = .returned (.tuple #[]) ∧ HP.Own B w0 w' (Rd.part a (Rd.crash t ks) ⊗ Q) :=
  HP.call h fun F hF hB => rCrash_any a t F v ks w hF hp fun _ hm => ⟨B, row_low_keep hr h.size hB hm⟩
theorem orRead (r : ByteArray × Int) (i : Int) (h : HP.Own B w0 w (Rd.part a t ⊗ Q)) (hp : t.pend.length < 1000000) (hi : (Lit.int .i64 i).wf = true) (hr : Rd.read t i = r) :
    Calls Try.prog 32 #[.pointer (some ⟨a, 0, none⟩), .int .i64 i] w fun e w' => e = .returned (.tuple #[.string r.1, .int .i64 r.2]) ∧ w = w' :=
  HP.look h fun F hF => hr ▸ rRead_any a t F i w hF hp hi
/-- What is read of the document's disk directly. -/
theorem orCells (h : HP.Own B w0 w (Rd.part a t ⊗ Q)) : (∃ A c, w.cell? ⟨a, 0, none⟩ = some (.slice A t.L.length c)) ∧ (∃ A c, w.cell? ⟨a, 1, none⟩ = some (.slice A t.pend.length c)) ∧ a < w.heap.size ∧ t.L.length ≤ 4096 := by
  obtain ⟨F, ⟨F1, F2, rfl, h1, h2, h3⟩, _⟩ := h
  obtain ⟨bl, cl, cur, x, y, g1, g2, g3, g4, g5, g6, g7, g8, rfl⟩ := (show Rd.Of a t w F1 from h1)
  obtain ⟨Aa, ca, rfl⟩ := Rd.own_form g5
  exact ⟨⟨_, cl, by rw [Dk.cell_of g1]; rfl⟩, ⟨Aa, ca, by rw [Dk.cell_of g1]; rfl⟩, lt_of_block g1, g4.2.1⟩
/-- A new part beside. -/
theorem HP.Own.add {w' : World} {P R : HP} (h : HP.Own B w0 w P) (hb : Below w.heap.size w w') (hr : ∃ G, R.p w' G ∧ ∀ k ∈ G, w.heap.size ≤ k) : HP.Own B w0 w' (R ⊗ P) := by
  obtain ⟨F, h1, h2, h3, h4⟩ := h
  obtain ⟨G, g1, g2⟩ := hr
  refine ⟨G ++ F, ⟨G, F, rfl, g1, HP.keep_below h1 hb, fun k hk hk' => ?_⟩, fun k hk => ?_, h3.trans (hb.mono h4), Nat.le_trans h4 hb.size⟩
  · have := P.lt w F h1 k hk'
    have := g2 k hk
    omega
  · rcases List.mem_append.1 hk with hk | hk
    · exact Nat.le_trans h4 (g2 k hk)
    · exact h2 k hk
theorem oCopy (h : HP.Own B w0 w (Dk.part a s ⊗ Q)) (hp : s.pend.length < 1000000) :
    Calls Try.prog 17 #[.pointer (some ⟨a, 0, none⟩)] w fun e w' => ∃ c, e = .returned (.pointer (some ⟨c, 0, none⟩)) ∧ HP.Own B w0 w' (Dk.part c s ⊗ (Dk.part a s ⊗ Q)) :=
  HP.look h fun F hF => (dCopy_any a s F w hF hp).mono fun _ _ ⟨bc, G, he, hb, hG, hk⟩ => ⟨bc, he, h.add hb ⟨G, hG, hk⟩⟩
theorem orCopy (h : HP.Own B w0 w (Rd.part a t ⊗ Q)) (hp : t.pend.length < 1000000) :
    Calls Try.prog 18 #[.pointer (some ⟨a, 0, none⟩)] w fun e w' => ∃ c, e = .returned (.pointer (some ⟨c, 0, none⟩)) ∧ HP.Own B w0 w' (Rd.part c t ⊗ (Rd.part a t ⊗ Q)) :=
  HP.look h fun F hF => by
    by_cases hne : t.pend = []
    · exact (rCopy_none a t F w hF hne).mono fun _ _ ⟨bc, he, G, hb, hG, hk⟩ => ⟨bc, he, h.add hb ⟨G, hG, hk⟩⟩
    · exact (rCopy_some a t F w hF hp hne).mono fun _ _ ⟨bc, he, G, hb, hG, hk⟩ => ⟨bc, he, h.add hb ⟨G, hG, hk⟩⟩
end
end Go.Proofs.Ytienbgfmhllgmaa
