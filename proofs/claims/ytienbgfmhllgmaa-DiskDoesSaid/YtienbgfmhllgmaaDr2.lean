/- The document's disk in a world; the walks of stetref04's New, use, Limit, Read. -/
import Derived.Test.YtienbgfmhllgmaaRows
import Derived.Test.YtienbgfmhllgmaaKit
import Derived.Test.YtienbgfmhllgmaaDk2
import Derived.Test.YtienbgfmhllgmaaDk4
import Derived.Test.YtienbgfmhllgmaaDr1
import Derived.Test.YtienbgfmhllgmaaSep
namespace Go.Proofs.Ytienbgfmhllgmaa
open Go.RowKit

namespace Rd
def blk (v a b : Value) (l : Int) : Obj := .cells #[v, a, b, .int .i64 l] 54 (0, 0)
/-- Block br is a disk of the document's in the state t; its blocks are F. -/
def Of (br : Nat) (t : St) (w : World) (F : List Nat) : Prop :=
  ∃ bl cl cur a b, w.heap[br]? = some (blk (.slice (some ⟨bl, 0, none⟩) t.L.length cl) a b t.left) ∧ w.heap[bl]? = some (.cells cur 9 (0, 0)) ∧ (∀ j (h : j < t.L.length), cur[j]? = some (.string t.L[j])) ∧
    (0 < t.L.length ∧ t.L.length ≤ 4096 ∧ t.L.length ≤ cl ∧ cl ≤ maxLen) ∧
    w.ownsRow 0 3 1 a t.pend.length (t.pend.map fun u => .int .i64 u.1) ∧ w.ownsRow 0 9 1 b t.pend.length (t.pend.map fun u => .string u.2) ∧
    (br ≠ bl ∧ a.ownBlock ≠ some br ∧ a.ownBlock ≠ some bl ∧ b.ownBlock ≠ some br ∧ b.ownBlock ≠ some bl ∧ ∀ k, a.ownBlock = some k → b.ownBlock ≠ some k) ∧
    ((Lit.int .i64 t.left).wf = true ∧ ∀ u ∈ t.pend, (Lit.int .i64 u.1).wf = true ∧ 0 ≤ u.1 ∧ u.1 < t.L.length) ∧ F = br :: bl :: (a.ownBlock.toList ++ b.ownBlock.toList)

theorem own_form {w : World} {base : Nat} {e : TypeId} {v : Value} {n : Nat} {xs : List Value} (h : w.ownsRow base e 1 v n xs) : ∃ A c, v = .slice A n c := by
  rcases h.2 with ⟨rfl, hn⟩ | ⟨g, cap, cur, rfl, _⟩
  · exact ⟨none, 0, by rw [hn]⟩
  · exact ⟨_, _, rfl⟩
/-- A cell of an own row. -/
theorem own_cell {α : Type} {f : α → Value} {w : World} {base : Nat} {e : TypeId} {A : Option Addr} {c n : Nat} {xs : List α} (h : w.ownsRow base e 1 (.slice A n c) n (xs.map f)) (hne : xs ≠ []) :
    ∃ g, A = some ⟨g, 0, none⟩ ∧ g < w.heap.size ∧ ∀ j (hj : j < xs.length), w.cell? ⟨g, j, none⟩ = some (f xs[j]) := by
  rcases h.2 with ⟨he, hn⟩ | ⟨g, cap, cur, he, hg⟩
  · have := h.1
    rw [hn] at this
    cases xs with
    | nil => exact absurd rfl hne
    | cons => simp at this
  · cases he
    refine ⟨g, rfl, (h.lt g rfl).2, fun j hj => ?_⟩
    have := h.cells (g := g) rfl j (f xs[j]) (by simp [hj])
    rw [Addr.add_lit] at this
    simpa using this

theorem Of.lt {br : Nat} {t : St} {w : World} {F : List Nat} (h : Of br t w F) : ∀ k ∈ F, k < w.heap.size := by
  obtain ⟨bl, cl, cur, a, b, h1, h2, h3, h4, h5, h6, h7, h8, rfl⟩ := h
  intro k hk
  simp only [List.mem_cons, List.mem_append, Option.mem_toList] at hk
  rcases hk with rfl | rfl | hk | hk
  · exact lt_of_block h1
  · exact lt_of_block h2
  · exact (h5.lt k hk).2
  · exact (h6.lt k hk).2
theorem Of.keep {br : Nat} {t : St} {w w' : World} {F : List Nat} (h : Of br t w F) (hk : ∀ k ∈ F, w'.heap[k]? = w.heap[k]?) : Of br t w' F := by
  obtain ⟨bl, cl, cur, a, b, h1, h2, h3, h4, h5, h6, h7, h8, rfl⟩ := h
  exact ⟨bl, cl, cur, a, b, (hk _ (by simp)).trans h1, (hk _ (by simp)).trans h2, h3, h4, own_heap h5 (fun k hk' => hk k (by simp [hk'])), own_heap h6 (fun k hk' => hk k (by simp [hk'])), h7, h8, rfl⟩
/-- It as a part. -/
def part (br : Nat) (t : St) : HP := ⟨fun w F => Of br t w F, fun _ _ h => h.lt, fun _ _ _ h hk => h.keep hk⟩
end Rd
/-- The program's disk as a part. -/
def Dk.part (bd : Nat) (s : Dk.St) : HP := ⟨fun w F => Dk.Of w bd s F, fun _ _ h => h.lt, fun _ _ _ h hk => h.keep hk⟩

set_option maxHeartbeats 400000 in
theorem rUse_any (br : Nat) (v a b : Value) (l : Int) (w : World) (h : w.heap[br]? = some (Rd.blk v a b l)) (hl : (Lit.int .i64 l).wf = true) :
    Calls Try.prog 35 #[.pointer (some ⟨br, 0, none⟩)] w fun e w' => e = .returned (.bool (!(l == 0))) ∧ w'.heap[br]? = some (Rd.blk v a b (if l = 0 then l else Rd.used l)) ∧ Moved w w' [br] ∧ w'.heap.size = w.heap.size := by
  have h0 : w.cell? ⟨br, 3, none⟩ = some (.int .i64 l) := by rw [Dk.cell_of h]; rfl
  have hf : w.frozen? ⟨br, 3, none⟩ = false := Dk.free_of h
  have hb := bounds_i64 hl
  have HH := Lib.hid h
  clear h hl
  by_cases hz : l = 0
  · subst hz
    go_enter Try.func35, Try.ntmps35
    go_wp2
    go_ret
    exact ⟨rfl, HH.out, Moved.refl _ _, rfl⟩
  · have hz2 : (l == 0) = false := by simp [hz]
    by_cases hp : 0 < l
    · have hs : wrap64 (l - 1) = l - 1 := by unfold wrap64; omega
      go_enter Try.func35, Try.ntmps35
      go_wp2
      go_ret
      refine ⟨by simp [hz2], ?_, (Moved.refl _ _).setCell _ _ _ (.inl (by simp)), by simp⟩
      rw [Rd.used, if_pos hp, Dk.cells_setCell HH.out]; rfl
    · go_enter Try.func35, Try.ntmps35
      go_wp2
      go_ret
      refine ⟨by simp [hz2], ?_, Moved.refl _ _, rfl⟩
      rw [Rd.used, if_neg (by omega)]; exact HH.out

set_option maxHeartbeats 400000 in
theorem rLimit_any (br : Nat) (t : Rd.St) (F : List Nat) (n : Int) (hn : (Lit.int .i64 n).wf = true) (w : World) (hd : Rd.Of br t w F) :
    Calls Try.prog 31 #[.pointer (some ⟨br, 0, none⟩), .int .i64 n] w fun e w' => e = .returned (.tuple #[]) ∧ HP.Does (Rd.part br (Rd.limit t n)) w F w' := by
  obtain ⟨bl, cl, cur, a, b, h1, h2, h3, h4, h5, h6, h7, h8, rfl⟩ := hd
  have h0 : w.cell? ⟨br, 3, none⟩ = some (.int .i64 t.left) := by rw [Dk.cell_of h1]; rfl
  have hf : w.frozen? ⟨br, 3, none⟩ = false := Dk.free_of h1
  have hb := bounds_i64 hn
  have hfin : ∀ w', w' = w.setCell ⟨br, 3, none⟩ (.int .i64 (max 0 n)) → HP.Does (Rd.part br (Rd.limit t n)) w (br :: bl :: (a.ownBlock.toList ++ b.ownBlock.toList)) w' := by
    rintro w' rfl
    refine ⟨_, ⟨bl, cl, cur, a, b, ?_, (Below.heap_setCell _ _ _ _ (fun e => h7.1 e.symm)).trans h2, h3, h4, own_heap h5 ?_, own_heap h6 ?_, h7, ⟨WalkArith.wf_i64 (by simp [Rd.limit]; omega), h8.2⟩, rfl⟩, (Moved.refl _ _).setCell _ _ _ (.inl (by simp)), fun k hk => .inl hk⟩
    · rw [Dk.cells_setCell h1]; rfl
    · intro k hk; exact Below.heap_setCell _ _ _ _ (fun e => h7.2.1 (by rw [hk, e]))
    · intro k hk; exact Below.heap_setCell _ _ _ _ (fun e => h7.2.2.2.1 (by rw [hk, e]))
  have HF := Lib.hid hfin
  clear h1 h2 h3 h4 h5 h6 h7 h8 hfin hn
  go_enter Try.func31, Try.ntmps31
  go_wp2
  all_goals go_end0
  all_goals exact ⟨rfl, HF.out _ (by congr 2; omega)⟩

theorem made_str (n : Nat) : madeCells #[Value.string ⟨#[]⟩] n = (List.replicate n (Value.string ⟨#[]⟩)).toArray := by
  apply Array.ext
  · simp [size_madeCells]
  · intro i h1 h2; simp [madeCells, Nat.mod_one]
theorem strInfo : (Try.prog.info? 9).map (fun i => (i.zero, i.size, i.bytes)) = some (some (.string ⟨#[]⟩), 1, 16) := by kernel_rfl

set_option maxHeartbeats 400000 in
theorem rNew_any (n : Nat) (hn : 1 ≤ n ∧ n ≤ 4096) (w : World) :
    Calls Try.prog 16 #[.int .i64 n] w fun e w' => ∃ br, e = .returned (.tuple #[.pointer (some ⟨br, 0, none⟩), .int .i64 0]) ∧ Below w.heap.size w w' ∧ w.heap.size ≤ br ∧ ∃ F, (Rd.part br ⟨List.replicate n ⟨#[]⟩, [], -1⟩).p w' F ∧ ∀ k ∈ F, w.heap.size ≤ k := by
  obtain ⟨hn1, hn2⟩ := hn
  have hmk : ∀ w : World, (Instr.makeSlice 22 (.int .i64 (n : Int)) (.int .i64 (n : Int))).run Try.prog w = .ok (.slice (some ⟨w.heap.size, 0, none⟩) n n) (w.alloc (.cells (List.replicate n (Value.string ⟨#[]⟩)).toArray 9)) := by
    intro w
    obtain ⟨i0, hi0, hz0, hz1, hz2⟩ := info_parts strInfo
    have h := run_make (P := Try.prog) w 22 9 i0 (.string ⟨#[]⟩) Try.underlying22 hi0 hz0 .i64 .i64 (n : Int) (n : Int) (by omega) (by omega) (by rw [hz2]; omega) (by omega)
    simp only [Int.toNat_natCast, hz1, Nat.mul_one, Value.cells, made_str] at h
    exact h
  have k1 : ¬ (n : Int) < 1 := by omega
  have k2 : ¬ (4096 : Int) < (n : Int) := by omega
  go_enter Try.func16, Try.ntmps16
  go_wp2
  go_ret2
  refine ⟨w.heap.size + 1, rfl, ((Below.refl _ _).alloc (Nat.le_refl _) _).alloc (by simp) _, by omega, _, ⟨w.heap.size, n, (List.replicate n (Value.string ⟨#[]⟩)).toArray, .slice none 0 0, .slice none 0 0, ?_, ?_, fun j hj => ?_, ?_, World.ownsRow_nil _ _ _ _, World.ownsRow_nil _ _ _ _, ?_, ⟨by show (Lit.int .i64 (-1)).wf = true; decide, fun u hu => by simp at hu⟩, rfl⟩, fun k hk => ?_⟩
  · have := heap_alloc_new (w.alloc (.cells (List.replicate n (Value.string ⟨#[]⟩)).toArray 9)) (Rd.blk (.slice (some ⟨w.heap.size, 0, none⟩) n n) (.slice none 0 0) (.slice none 0 0) (-1))
    rw [World.size_alloc] at this
    simpa [Rd.blk] using this
  · rw [Below.heap_alloc _ _ _ (by simp), heap_alloc_new]; simp
  · simp only [List.length_replicate] at hj
    simp [hj]
  · simp only [List.length_replicate, maxLen]; omega
  · simp [Value.ownBlock]
  · simp [Value.ownBlock] at hk; omega

theorem Rd.rd_take (l : List Dk.Wr) (i : Int) (s : ByteArray) (k : Nat) (hk : k < l.length) : Rd.rd (l.take (k + 1)) i s = if l[k].1 = i then l[k].2 else Rd.rd (l.take k) i s := by
  rw [List.take_succ_eq_append_getElem hk, Rd.rd_append]
  rfl

set_option maxHeartbeats 1000000 in
theorem rRead_any (br : Nat) (t : Rd.St) (F : List Nat) (i : Int) (w : World) (hd : Rd.Of br t w F) (hp : t.pend.length < 1000000) (hi : (Lit.int .i64 i).wf = true) :
    Calls Try.prog 32 #[.pointer (some ⟨br, 0, none⟩), .int .i64 i] w fun e w' => e = .returned (.tuple #[.string (Rd.read t i).1, .int .i64 (Rd.read t i).2]) ∧ w = w' := by
  obtain ⟨bl, cl, cur, a, b, h1, h2, h3, h4, h5, h6, h7, h8, rfl⟩ := hd
  obtain ⟨Aa, ca, rfl⟩ := Rd.own_form h5
  obtain ⟨Ab, cb, rfl⟩ := Rd.own_form h6
  have c0 : w.cell? ⟨br, 0, none⟩ = some (.slice (some ⟨bl, 0, none⟩) t.L.length cl) := by rw [Dk.cell_of h1]; rfl
  have c1 : w.cell? ⟨br, 1, none⟩ = some (.slice Aa t.pend.length ca) := by rw [Dk.cell_of h1]; rfl
  have c2 : w.cell? ⟨br, 2, none⟩ = some (.slice Ab t.pend.length cb) := by rw [Dk.cell_of h1]; rfl
  have hib := bounds_i64 hi
  by_cases hh : Rd.has t i = false
  · have hr : Rd.read t i = (⟨#[]⟩, 1) := by rw [Rd.read, if_pos hh]
    rw [hr]
    have hor : i < 0 ∨ (0 ≤ i ∧ (t.L.length : Int) ≤ i) := by
      simp only [Rd.has, Bool.and_eq_false_iff, decide_eq_false_iff_not] at hh
      omega
    clear hr hh h1 h2 h3 h4 h5 h6 h7 h8
    rcases hor with k1 | ⟨k1, k2⟩
    all_goals
      go_enter Try.func32, Try.ntmps32
      go_wp2
      go_ret2
      exact ⟨rfl, rfl⟩
  · obtain ⟨k1, k2⟩ := Rd.has_true hh
    obtain ⟨j, rfl⟩ : ∃ j : Nat, i = (j : Int) := ⟨i.toNat, by omega⟩
    have hr : Rd.read t j = (Rd.rd t.pend j (Rd.get t.L j), 0) := by rw [Rd.read, if_neg hh]
    rw [hr]
    have hj : j < t.L.length := by omega
    have cj : w.cell? ⟨bl, j, none⟩ = some (.string (Rd.get t.L j)) := by
      rw [Dk.cell_of h2, h3 j hj]
      simp [Rd.get, hj]
    generalize Rd.get t.L j = g at *
    have HA := Lib.hid (And.intro (fun hne => Rd.own_cell h5 hne) (fun hne => Rd.own_cell h6 hne))
    clear hr hh h1 h2 h3 h4 h5 h6 h7 h8
    obtain ⟨L0, l, lf⟩ := t
    simp only at *
    go_enter Try.func32, Try.ntmps32
    go_wp2
    go_loopw [6, 7] (fun s x wr => ∃ k : Nat, k ≤ l.length ∧ x = .int .i64 (k : Int) ∧ s = .string (Rd.rd (l.take k) j g) ∧ wr = w) (fun _ x _ => l.length - (intOf x).toNat)
    case atStart => exact ⟨0, Nat.zero_le _, rfl, rfl, rfl⟩
    case round =>
      obtain ⟨k, hk, rfl, rfl, rfl⟩ := hrel
      by_cases hlt : k < l.length
      · have hne : l ≠ [] := by rintro rfl; simp at hlt
        obtain ⟨ga, rfl, _, ha⟩ := HA.out.1 hne
        obtain ⟨gb, rfl, _, hb⟩ := HA.out.2 hne
        have q1 := ha k hlt
        have q2 := hb k hlt
        have HS := Lib.hid (Rd.rd_take l j g k hlt)
        have i1 : (k : Int) < (l.length : Int) := by omega
        clear ha hb
        generalize l[k] = u at *
        obtain ⟨u1, u2⟩ := u
        simp only at *
        by_cases he : u1 = (j : Int)
        · have he2 : (u1 == (j : Int)) = true := by simp [he]
          have HE := Lib.hid he
          clear he
          go_wp2
          go_roundw
          case rel => exact ⟨k + 1, by omega, by go_num, by rw [HS.out, if_pos HE.out], by trivial⟩
          case measure => simp [intOf]; omega
        · have he2 : (u1 == (j : Int)) = false := by simp [he]
          have HE := Lib.hid he
          clear he
          go_wp2
          go_roundw
          case rel => exact ⟨k + 1, by omega, by go_num, by rw [HS.out, if_neg HE.out], by trivial⟩
          case measure => simp [intOf]; omega
      · obtain rfl : k = l.length := by omega
        go_wp2
        go_ret2
        exact ⟨by rw [List.take_length]; rfl, rfl⟩
end Go.Proofs.Ytienbgfmhllgmaa
