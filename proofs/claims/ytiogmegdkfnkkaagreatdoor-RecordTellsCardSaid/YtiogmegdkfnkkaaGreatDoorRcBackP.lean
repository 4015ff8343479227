/- Bounds of records that were cut. -/
import Derived.Test.YtiogmegdkfnkkaaGreatDoorRcCut
import Derived.Test.YtiogmegdkfnkkaaGreatDoorQ11
namespace Go.Proofs.YtiogmegdkfnkkaaGreatDoor
open Go.RowKit Tx

theorem may_recok {x : Rc.Rec} (h : Rc.mayR x = true) : RecOk x ∧ x.2.1.length < 1000000 := by
  obtain ⟨h1, h2, h3, h4⟩ := Rc.mayR_ok h
  refine ⟨⟨by simp only [maxLen]; omega, fun r hr => ?_, fun f hf => fileOk_FOk ((Wr.right_of h4).ok f hf)⟩, by omega⟩
  have := h1 r hr
  unfold Rc.seenOk at this
  simp only [Bool.and_eq_true, decide_eq_true_eq] at this
  exact ⟨by simp only [maxLen]; omega, by simp only [maxLen]; omega⟩
/-- The bounds of what was cut. -/
structure CutOk (x : Rc.Rec) : Prop where
  ok : RecOk x
  rule : x.1.length ≤ 120
  reads : x.2.1.length ≤ 8 ∧ ∀ r ∈ x.2.1, r.1.length ≤ 120 ∧ r.2.2.length ≤ 120
  writes : x.2.2.length ≤ 6 ∧ ∀ f ∈ x.2.2, f.1.length ≤ 120 ∧ f.2.length ≤ 120
theorem cutX_ok (x : Rc.Rec) : CutOk (cutX x) := by
  have hr : ∀ r ∈ (cutX x).2.1, r.1.length ≤ 120 ∧ r.2.2.length ≤ 120 := by
    intro r hr
    obtain ⟨q, _, rfl⟩ := List.mem_map.1 hr
    exact ⟨by simp only [cutS, List.length_take]; omega, by simp only [cutS, List.length_take]; omega⟩
  have hf : ∀ f ∈ (cutX x).2.2, f.1.length ≤ 120 ∧ f.2.length ≤ 120 := by
    intro f hf
    obtain ⟨q, _, rfl⟩ := List.mem_map.1 hf
    exact ⟨by simp only [cutF, List.length_take]; omega, by simp only [cutF, List.length_take]; omega⟩
  have h0 : (cutX x).1.length ≤ 120 := by simp only [cutX, List.length_take]; omega
  exact ⟨⟨by simp only [maxLen]; omega, fun r h => ⟨by have := (hr r h).1; simp only [maxLen]; omega, by have := (hr r h).2; simp only [maxLen]; omega⟩, fun f h => ⟨by have := (hf f h).1; simp only [maxLen]; omega, by have := (hf f h).2; simp only [maxLen]; omega⟩⟩,
    h0, ⟨by simp only [cutX, List.length_map, List.length_take]; omega, hr⟩, ⟨by simp only [cutX, List.length_map, List.length_take]; omega, hf⟩⟩
theorem cutL_ok (l : List Rc.Rec) (n : Nat) : (∀ x ∈ cutL l n, CutOk x) ∧ (cutL l n).length ≤ n := by
  refine ⟨fun x hx => ?_, by simp only [cutL, List.length_map, List.length_take]; omega⟩
  obtain ⟨q, _, rfl⟩ := List.mem_map.1 hx
  exact cutX_ok q
theorem reads_cut (l : List Rc.Seen) (h : ∀ r ∈ l, r.1.length ≤ 120 ∧ r.2.2.length ≤ 120) : (Rc.readsT l).length ≤ 257 * l.length := by
  induction l with
  | nil => simp [Rc.readsT]
  | cons r l ih =>
    have h1 := h r (by simp)
    have h2 := ih (fun q hq => h q (by simp [hq]))
    have h5 : (Rc.state r).length ≤ 121 := by unfold Rc.state; split <;> simp <;> omega
    have h3 := Rc.put_lt r.1 (by omega)
    have h4 := Rc.put_lt (Rc.state r) (by omega)
    rw [show Rc.readsT (r :: l) = Wr.put r.1 ++ Wr.put (Rc.state r) ++ Rc.readsT l by simp [Rc.readsT]]
    simp only [List.length_append, List.length_cons]
    omega
theorem files_cut (m : List Wr.F) (h : ∀ f ∈ m, f.1.length ≤ 120 ∧ f.2.length ≤ 120) : (Wr.files m).length ≤ 256 * m.length := by
  induction m with
  | nil => simp [Wr.files]
  | cons f m ih =>
    have h1 := h f (by simp)
    have h2 := ih (fun g hg => h g (by simp [hg]))
    have h3 := Rc.put_lt f.1 (by omega)
    have h4 := Rc.put_lt f.2 (by omega)
    rw [show Wr.files (f :: m) = Wr.put f.1 ++ Wr.put f.2 ++ Wr.files m by simp [Wr.files]]
    simp only [List.length_append, List.length_cons]
    omega
theorem text_cut {x : Rc.Rec} (h : CutOk x) : (Rc.text x).length ≤ 4000 := by
  have a := reads_cut x.2.1 h.reads.2
  have b := files_cut x.2.2 h.writes.2
  have a2 := h.reads.1
  have b2 := h.writes.1
  have c0 := h.rule
  have c := Rc.put_lt x.1 (by omega)
  have d := Rc.put_lt (Rc.readsT x.2.1) (by omega)
  have e := Rc.put_lt (Wr.files x.2.2) (by omega)
  unfold Rc.text
  simp only [List.length_append]
  omega
theorem bytes_cut (l : List Rc.Rec) (h : ∀ x ∈ l, CutOk x) : (Rc.bytes l).length ≤ 13 + 4008 * l.length := by
  induction l using Tx.snoc_ind with
  | nil =>
    have h1 := Rc.put_lt Rc.stet1 (by decide)
    have h2 : Rc.stet1.length = 5 := rfl
    have h3 : Rc.bytes [] = Wr.put Rc.stet1 := by simp [Rc.bytes]
    rw [h3]
    omega
  | snoc l x ih =>
    rw [Rc.bytes_snoc, List.length_append, List.length_append]
    have h1 := ih (fun y hy => h y (by simp [hy]))
    have h2 := text_cut (h x (by simp))
    have h3 := Rc.put_lt (Rc.text x) (by omega)
    simp only [List.length_cons, List.length_nil]
    omega
end Go.Proofs.YtiogmegdkfnkkaaGreatDoor
