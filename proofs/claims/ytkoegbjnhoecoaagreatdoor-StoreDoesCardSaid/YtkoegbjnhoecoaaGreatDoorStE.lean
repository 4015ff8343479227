/- A store, and a disk, with nothing pending and no limit. -/
import Derived.Test.YtkoegbjnhoecoaaGreatDoorStC
namespace Go.Proofs.YtkoegbjnhoecoaaGreatDoor
open Go.RowKit Tx

/-- A disk with nothing pending on which these files were committed last. -/
def DiskIs (B : Nat) (w0 w : World) (bd n G C : Nat) (L : List Wr.F) (R : List Nat) : Prop :=
  ∃ (d : Dk.St) (h0 h1 : Sq.Head), Dk.InR B w0 w bd d R ∧ d.n = (n : Int) ∧ d.lim = none ∧ d.pend = [] ∧ Sq.Good n d.held h0 h1 (Wr.files L) ∧ HBd G h0 h1 ∧ d.cnt ≤ C
/-- A store on it. -/
def Calm (B : Nat) (w0 w : World) (bd n sb G C : Nat) (L : List Wr.F) (R : List Nat) : Prop :=
  ∃ (d : Dk.St) (h0 h1 : Sq.Head), StIn B w0 w bd d sb h0 h1 L R ∧ d.n = (n : Int) ∧ d.lim = none ∧ d.pend = [] ∧ Sq.Good n d.held h0 h1 (Wr.files L) ∧ HBd G h0 h1 ∧ d.cnt ≤ C
section
variable {B : Nat} {w0 w w' : World} {bd n sb G C : Nat} {L : List Wr.F} {R : List Nat}
theorem Calm.disk (h : Calm B w0 w bd n sb G C L R) : DiskIs B w0 w bd n G C L R := by
  obtain ⟨d, h0, h1, a, b⟩ := h
  exact ⟨d, h0, h1, a.disk, b⟩
theorem Calm.mem (h : Calm B w0 w bd n sb G C L R) : sb ∈ R ∧ sb < w.heap.size := by
  obtain ⟨d, h0, h1, a, b⟩ := h
  exact ⟨a.mem, (a.disk.2.2.1 sb a.mem).1⟩
theorem DiskIs.bel (h : DiskIs B w0 w bd n G C L R) : B ≤ w.heap.size ∧ Below B w0 w ∧ ∀ k ∈ R, k < w.heap.size ∧ B ≤ k := by
  obtain ⟨d, h0, h1, a, b⟩ := h
  exact ⟨a.1, a.2.1, a.2.2.1⟩
theorem Calm.below (h : Calm B w0 w bd n sb G C L R) (hb : Below w.heap.size w w') : Calm B w0 w' bd n sb G C L R := by
  obtain ⟨d, h0, h1, a, b⟩ := h
  exact ⟨d, h0, h1, a.below hb, b⟩
theorem Calm.more (h : Calm B w0 w bd n sb G C L R) (hb : Below w.heap.size w w') (K : List Nat) (hK : ∀ k ∈ K, w.heap.size ≤ k ∧ k < w'.heap.size) : Calm B w0 w' bd n sb G C L (K ++ R) := by
  obtain ⟨d, h0, h1, a, b⟩ := h
  exact ⟨d, h0, h1, a.more hb K hK, b⟩
theorem DiskIs.below (h : DiskIs B w0 w bd n G C L R) (hb : Below w.heap.size w w') : DiskIs B w0 w' bd n G C L R := by
  obtain ⟨d, h0, h1, a, b⟩ := h
  exact ⟨d, h0, h1, (a.below hb).1, b⟩
theorem DiskIs.sub {R' : List Nat} (h : DiskIs B w0 w bd n G C L R') (hs : ∀ k ∈ R, k ∈ R') : DiskIs B w0 w bd n G C L R := by
  obtain ⟨d, h0, h1, a, b⟩ := h
  exact ⟨d, h0, h1, inR_sub a hs, b⟩
theorem on_calm (h4 : 4 ≤ n ∧ n ≤ 4096) (hB : B ≤ w.heap.size) (hb : Below B w0 w) (hg : ∀ wx, Below B w0 wx → Gl wx) :
    Calls Tryz.prog 10 #[.int .i64 n] w fun e w' => ∃ sb bd R, e = .returned (.tuple #[.pointer (some ⟨sb, 0, none⟩), .pointer (some ⟨bd, 0, none⟩)]) ∧ Calm B w0 w' bd n sb 0 0 [] R ∧ Below w.heap.size w w' ∧ w.heap.size ≤ sb :=
  (on_any n h4 hB hb hg).mono fun e w' ⟨sb, bd, R, h1, h2, h3, h5⟩ => ⟨sb, bd, R, h1, ⟨_, _, _, h2, rfl, rfl, rfl, Sq.Good.fresh n, ⟨by simp, by simp, by simp, by simp⟩, Nat.le_refl _⟩, h3, h5⟩
theorem commit_calm (h : Calm B w0 w bd n sb G C L R) (h4 : 4 ≤ n ∧ n ≤ 4096) (hG : G ≤ 100) (hC : C < 700000) (lv : Value) (K : List Wr.F) (hK : RowK B R sb w lv K) (hr : Wr.right K = true) (hU : (Wr.files K).length ≤ 64 * Sq.half n) (hg : ∀ wx, Below B w0 wx → Gl wx) :
    Calls Tryz.prog 12 #[.pointer (some ⟨sb, 0, none⟩), lv] w fun e w' => e = .returned (.int .i64 0) ∧ ∃ R', Calm B w0 w' bd n sb (G + 1) (C + Sq.cnt (Wr.files K) + 1) K R' ∧ (∀ k ∈ R, k ∈ R') ∧ ∀ k ∈ R, k ≠ sb → w'.heap[k]? = w.heap[k]? := by
  obtain ⟨d, h0, h1, a, b1, b2, b3, b4, b5, b6⟩ := h
  have hok : ∀ f ∈ K, FOk f := fun f hf => by
    have := Wr.fileOk_len ((Wr.right_of hr).ok f hf)
    exact ⟨by simp only [maxLen]; omega, by simp only [maxLen]; omega⟩
  have hl := files_len K hr
  have c0 := b5.a0
  have c1 := b5.a1
  have c2 := b5.b0
  have c3 := b5.b1
  refine (commit_any n (Wr.files L) lv K a hK b1 h4 b3 (by omega) b4 (by omega) (by omega) hr hU hok hg).mono ?_
  rintro e w' ⟨hs, ⟨rfl, d', R', k1, k2, k3, k4, k5, k6, _⟩ | ⟨_, d', _, _, _, _, hx, _⟩⟩
  · exact ⟨rfl, R', ⟨d', _, _, k1, k3.n.trans b1, k3.live b2, k4, k5, b5.next _ (by omega), by omega⟩, k2, hs⟩
  · exact absurd b2 hx
theorem open_calm (h : DiskIs B w0 w bd n G C L R) (h4 : 4 ≤ n ∧ n ≤ 4096) (hG : G ≤ 100) (hr : Wr.right L = true) (hg : ∀ wx, Below B w0 wx → Gl wx) :
    Calls Tryz.prog 18 #[.pointer (some ⟨bd, 0, none⟩)] w fun e w' => ∃ st R', e = .returned (.tuple #[.pointer (some ⟨st, 0, none⟩), .int .i64 0]) ∧ Calm B w0 w' bd n st G C L R' ∧ w.heap.size ≤ st ∧ (∀ k ∈ R, k ∈ R') ∧ Below w.heap.size w w' := by
  obtain ⟨d, h0, h1, a, b1, b2, b3, b4, b5, b6⟩ := h
  have c0 := b5.a0
  have c1 := b5.a1
  have c2 := b5.b0
  have c3 := b5.b1
  refine (open_any n h0 h1 (Wr.files L) a b1 h4 b3 b4 (by omega) (by omega) (hg _ a.2.1)).mono ?_
  rintro e w' ⟨st, R', rfl, k1, k2, k3, k4⟩
  rw [parL_files hr] at k1
  exact ⟨st, R', rfl, ⟨d, h0, h1, k1, b1, b2, b3, b4, b5, b6⟩, k2, k3, k4⟩
theorem crash_calmD (h : DiskIs B w0 w bd n G C L R) (hC : C < 900000) (v : Value) (ks : List Bool) (hv : Row Value.bool w B v ks) :
    Calls Tryz.prog 17 #[.pointer (some ⟨bd, 0, none⟩), v] w fun e w' => e = .returned (.tuple #[]) ∧ DiskIs B w0 w' bd n G C L R ∧ Dk.Same R w w' := by
  obtain ⟨d, h0, h1, a, b1, b2, b3, b4, b5, b6⟩ := h
  refine (crash_inR v ks a (by rw [b3]; simp; omega) hv).mono ?_
  rintro e w' ⟨rfl, k1, k2⟩
  rw [crash_calm d ks b3] at k1
  exact ⟨rfl, ⟨_, h0, h1, k1, b1, rfl, b3, b4, b5, b6⟩, k2⟩
theorem load_calm (h : Calm B w0 w bd n sb G C L R) (hl : L.length < 1000000) :
    Calls Tryz.prog 15 #[.pointer (some ⟨sb, 0, none⟩)] w fun e w' => ∃ v', e = .returned v' ∧ OwnC 29 2 ff w.heap.size w' v' L ∧ Below w.heap.size w w' := by
  obtain ⟨d, h0, h1, a, b⟩ := h
  exact load_any a hl
end
/-- A row of Bools as it came in, in whatever world comes behind. -/
theorem bools_to {w w' : World} {v : Value} {ks : List Bool} (h : Row Value.bool w w.heap.size v ks) (hb : Below w.heap.size w w') : Row Value.bool w' w.heap.size v ks := h.below hb (Nat.le_refl _)
theorem below_drewN' {B : Nat} {w0 w : World} (h : Below B w0 w) (n : Nat) : Below B w0 (w.drewN n) := h.trans (below_of_drewN n)
end Go.Proofs.YtkoegbjnhoecoaaGreatDoor
