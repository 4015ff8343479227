/- What a step works on beside its store; what lies behind its commit. -/
import Derived.Test.YtkoegbjnhoecoaaGreatDoorStK
namespace Go.Proofs.YtkoegbjnhoecoaaGreatDoor
open Go.RowKit Tx

theorem slAddr00 (A : Option Addr) (c s : Nat) : slAddr A 0 c s = A := by
  unfold slAddr
  cases A with
  | none => simp
  | some a => simp [Addr.add]
theorem nilOr_cut {A : Option Addr} {n c k : Nat} (h : NilOr (.slice A n c)) (hk : k ≤ n) : NilOr (.slice A k c) := by
  rcases h with h | ⟨ad, m, q, h⟩ <;> injection h with h1 h2 h3 <;> subst h1 h2 h3
  · have : k = 0 := by omega
    subst this
    exact .inl rfl
  · exact .inr ⟨_, _, _, rfl⟩
/-- A map of at most 12 files of 150 bytes. -/
theorem map150 (l : List Wr.F) : ∀ f ∈ Wr.mapF l 12 150, FOk f := fun f hf => by
  have := Wr.fileOk_len ((Wr.mapF_right l 12 150).ok f hf)
  exact ⟨by simp only [maxLen]; omega, by simp only [maxLen]; omega⟩
/-- A world behind w0, and blocks of one's own in it. -/
def Bel (B : Nat) (w0 w : World) (R : List Nat) : Prop := B ≤ w.heap.size ∧ Below B w0 w ∧ ∀ k ∈ R, k < w.heap.size ∧ B ≤ k
theorem Bel.below {B : Nat} {w0 w w' : World} {R : List Nat} (h : Bel B w0 w R) (hb : Below w.heap.size w w') : Bel B w0 w' R :=
  ⟨Nat.le_trans h.1 hb.size, h.2.1.trans (hb.mono h.1), fun k hk => ⟨Nat.lt_of_lt_of_le (h.2.2 k hk).1 hb.size, (h.2.2 k hk).2⟩⟩
theorem inR_bel {B : Nat} {w0 w : World} {bd : Nat} {d : Dk.St} {R : List Nat} (h : Dk.InR B w0 w bd d R) : Bel B w0 w R := ⟨h.1, h.2.1, h.2.2.1⟩
theorem RowK.go {B : Nat} {R R' : List Nat} {sb sb' : Nat} {w0 w w' : World} {v : Value} {l : List Wr.F} (h : RowK B R sb w v l) (h0 : Bel B w0 w R) (h1 : Bel B w0 w' R') (hs : ∀ k ∈ R, k ∈ R') (hk : ∀ k ∈ R, k ≠ sb → w'.heap[k]? = w.heap[k]?) (hn : sb' = sb ∨ w.heap.size ≤ sb') : RowK B R' sb' w' v l :=
  h.to h0.2.1 h1.2.1 h1.1 fun k hk1 hk2 => ⟨⟨hs k hk1, by
    rcases hn with rfl | hn
    · exact hk2
    · have := (h0.2.2 k hk1).1
      omega⟩, (h1.2.2 k (hs k hk1)).1, hk k hk1 hk2⟩
/-- What a step works on beside its store: the step's own copy (block xb), the files that are there (nv), those to come (lv). -/
structure Sides (B : Nat) (R : List Nat) (sb : Nat) (w : World) (xb : Nat) (xo : Obj) (lv : Value) (L : List Wr.F) (nv : Value) (La : List Wr.F) : Prop where
  mem : xb ∈ R
  ne : xb ≠ sb
  box : w.heap[xb]? = some xo
  now : RowK B R sb w nv La
  new : RowK B R sb w lv L
theorem Sides.to {B : Nat} {R R' : List Nat} {sb sb' : Nat} {w0 w w' : World} {xb : Nat} {xo : Obj} {lv nv : Value} {L La : List Wr.F} (h : Sides B R sb w xb xo lv L nv La) (h0 : Bel B w0 w R) (h1 : Bel B w0 w' R') (hs : ∀ k ∈ R, k ∈ R') (hk : ∀ k ∈ R, k ≠ sb → w'.heap[k]? = w.heap[k]?) (hn : sb' = sb ∨ w.heap.size ≤ sb') : Sides B R' sb' w' xb xo lv L nv La :=
  ⟨hs _ h.mem, by
    rcases hn with rfl | hn
    · exact h.ne
    · have := (h0.2.2 _ h.mem).1
      omega, (hk _ h.mem h.ne).trans h.box, h.now.go h0 h1 hs hk hn, h.new.go h0 h1 hs hk hn⟩
theorem Sides.below {B : Nat} {R : List Nat} {sb : Nat} {w0 w w' : World} {xb : Nat} {xo : Obj} {lv nv : Value} {L La : List Wr.F} (h : Sides B R sb w xb xo lv L nv La) (h0 : Bel B w0 w R) (hb : Below w.heap.size w w') : Sides B R sb w' xb xo lv L nv La :=
  h.to h0 (h0.below hb) (fun _ hk => hk) (fun k hk _ => hb.block k (h0.2.2 k hk).1) (.inl rfl)
theorem may_cases (L : List Wr.F) (n : Nat) (h4 : 4 ≤ n ∧ n ≤ 4096) :
    (mayZ L n = 5 ∧ Wr.right L = false) ∨ (mayZ L n = 7 ∧ Wr.right L = true ∧ 64 * Sq.half n < (Wr.files L).length) ∨ (mayZ L n = 0 ∧ Wr.right L = true ∧ (Wr.files L).length ≤ 64 * Sq.half n) := by
  unfold mayZ
  rw [roomZ_eq n h4]
  cases hr : Wr.right L with
  | false => exact .inl ⟨rfl, rfl⟩
  | true =>
    by_cases h : 64 * Sq.half n < (Wr.files L).length
    · exact .inr (.inl ⟨by rw [if_neg (by simp), if_pos (by omega)], rfl, h⟩)
    · exact .inr (.inr ⟨by rw [if_neg (by simp), if_neg (by omega)], rfl, by omega⟩)
/-- Behind a step's commit, which said e: Ln are the files that are there. -/
def Aft (B : Nat) (w0 w : World) (bd n sb G C : Nat) (La L Ln : List Wr.F) (R : List Nat) (e lim : Int) : Prop :=
  Wr.right Ln = true ∧ Bel B w0 w R ∧ sb ∈ R ∧
  ((e ≠ 8 ∧ ∃ (d : Dk.St) (h0 h1 : Sq.Head), StIn B w0 w bd d sb h0 h1 Ln R ∧ d.n = (n : Int) ∧ (lim < 0 → d.lim = none) ∧ d.pend = [] ∧ Sq.Good n d.held h0 h1 (Wr.files Ln) ∧ HBd G h0 h1 ∧ d.cnt ≤ C) ∨
   (e = 8 ∧ 0 ≤ lim ∧ Ln = La ∧ Wr.right L = true ∧ ∃ (d : Dk.St) (h0 h1 : Sq.Head), Dk.InR B w0 w bd d R ∧ d.n = (n : Int) ∧ Sq.Mid n d.held d.pend h0 h1 (Wr.files La) (Wr.files L) ∧ HBd G h0 h1 ∧ HBd G (Sq.n0 h0 h1 (Wr.files L)) (Sq.n1 h0 h1 (Wr.files L)) ∧ d.cnt + d.pend.length ≤ C))
section
variable {B : Nat} {w0 w w' : World} {bd n sb G C : Nat} {La L Ln : List Wr.F} {R : List Nat} {e lim : Int}
theorem Aft.below (h : Aft B w0 w bd n sb G C La L Ln R e lim) (hb : Below w.heap.size w w') : Aft B w0 w' bd n sb G C La L Ln R e lim := by
  obtain ⟨a1, a2, a3, a4⟩ := h
  refine ⟨a1, a2.below hb, a3, ?_⟩
  rcases a4 with ⟨b1, d, h0, h1, b2, b3⟩ | ⟨b1, b2, b3, b4, d, h0, h1, b5, b6⟩
  · exact .inl ⟨b1, d, h0, h1, b2.below hb, b3⟩
  · exact .inr ⟨b1, b2, b3, b4, d, h0, h1, (b5.below hb).1, b6⟩
theorem HBd.mono {G G' : Nat} {h0 h1 : Sq.Head} (h : HBd G h0 h1) (hG : G ≤ G') : HBd G' h0 h1 := ⟨Nat.le_trans h.a0 hG, Nat.le_trans h.a1 hG, h.b0, h.b1⟩
theorem commit_aft {d : Dk.St} {h0 h1 : Sq.Head} (a : StIn B w0 w bd d sb h0 h1 La R) (h4 : 4 ≤ n ∧ n ≤ 19) (b1 : d.n = (n : Int)) (b2 : lim < 0 → d.lim = none) (b3 : d.pend = []) (b4 : Sq.Good n d.held h0 h1 (Wr.files La)) (b5 : HBd G h0 h1) (b6 : d.cnt ≤ C)
    (hG : G ≤ 100) (hC : C < 700000) (lv : Value) (hK : RowK B R sb w lv L) (hok : ∀ f ∈ L, FOk f) (hra : Wr.right La = true) (hg : ∀ wx, Below B w0 wx → Gl wx) :
    Calls Tryz.prog 12 #[.pointer (some ⟨sb, 0, none⟩), lv] w fun e w' => ∃ (ei : Int) (R' : List Nat) (Ln : List Wr.F), e = .returned (.int .i64 ei) ∧ Aft B w0 w' bd n sb (G + 1) (C + 10) La L Ln R' ei lim ∧ (∀ k ∈ R, k ∈ R') ∧ (∀ k ∈ R, k ≠ sb → w'.heap[k]? = w.heap[k]?) ∧
      ((mayZ L n = ei ∧ (ei = 5 ∨ ei = 7) ∧ Ln = La) ∨ (mayZ L n = 0 ∧ ei = 0 ∧ Ln = L) ∨ (mayZ L n = 0 ∧ ei = 8 ∧ 0 ≤ lim ∧ Ln = La)) := by
  have h4' : 4 ≤ n ∧ n ≤ 4096 := by omega
  have c0 := b5.a0
  have c1 := b5.a1
  have c2 := b5.b0
  have c3 := b5.b1
  have stay : ∀ (ei : Int) (w' : World), ei ≠ 8 → Below w.heap.size w w' → Aft B w0 w' bd n sb (G + 1) (C + 10) La L La R ei lim := fun ei w' he hb =>
    ⟨hra, (inR_bel a.disk).below hb, a.mem, .inl ⟨he, d, h0, h1, a.below hb, b1, b2, b3, b4, b5.mono (by omega), by omega⟩⟩
  rcases may_cases L n h4' with ⟨hm, hr⟩ | ⟨hm, hr, hU⟩ | ⟨hm, hr, hU⟩
  · refine (commit_form lv L hK.1 hok hr).mono ?_
    rintro e w' ⟨rfl, hb⟩
    exact ⟨5, R, La, rfl, stay 5 w' (by decide) hb, fun _ hk => hk, fun k hk _ => hb.block k ((a.disk.2.2.1 k hk).1), .inl ⟨hm, .inl rfl, rfl⟩⟩
  · refine (commit_full n lv L a hK.1 b1 h4' hr hU hok hg).mono ?_
    rintro e w' ⟨rfl, hb⟩
    exact ⟨7, R, La, rfl, stay 7 w' (by decide) hb, fun _ hk => hk, fun k hk _ => hb.block k ((a.disk.2.2.1 k hk).1), .inl ⟨hm, .inr rfl, rfl⟩⟩
  · have hl := files_len L hr
    have hcn : Sq.cnt (Wr.files L) ≤ 8 := by
      have := Sq.cnt_le hU
      unfold Sq.half at this
      omega
    have hnx := b5.next (Wr.files L) (by omega)
    refine (commit_any n (Wr.files La) lv L a hK b1 h4' b3 (by omega) b4 (by omega) (by omega) hr hU hok hg).mono ?_
    rintro e w' ⟨hs, ⟨rfl, d', R', k1, k2, k3, k4, k5, k6, _⟩ | ⟨rfl, d', k1, k2, k3, k4, hx, _⟩⟩
    · exact ⟨0, R', L, rfl, ⟨hr, inR_bel k1.disk, k1.mem, .inl ⟨by decide, d', _, _, k1, k3.n.trans b1, fun hx => k3.live (b2 hx), k4, k5, hnx, by omega⟩⟩, k2, hs, .inr (.inl ⟨hm, rfl, rfl⟩)⟩
    · have h0l : 0 ≤ lim := by
        by_cases hx2 : lim < 0
        · exact absurd (b2 hx2) hx
        · omega
      exact ⟨8, R, La, rfl, ⟨hra, inR_bel k1, a.mem, .inr ⟨rfl, h0l, rfl, hr, d', h0, h1, k1, k2.n.trans b1, k3, b5.mono (by omega), hnx, by omega⟩⟩, fun _ hk => hk, hs, .inr (.inr ⟨hm, rfl, h0l, rfl⟩)⟩
theorem crash_aft (h : Aft B w0 w bd n sb G C La L Ln R e lim) (hC : C < 900000) (hra : Wr.right La = true) (v : Value) (ks : List Bool) (hv : Row Value.bool w B v ks) :
    Calls Tryz.prog 17 #[.pointer (some ⟨bd, 0, none⟩), v] w fun ex w' => ex = .returned (.tuple #[]) ∧ Dk.Same R w w' ∧ ∃ Lx, DiskIs B w0 w' bd n G C Lx R ∧ Wr.right Lx = true ∧ ((e ≠ 8 ∧ Lx = Ln) ∨ (e = 8 ∧ Ln = La ∧ (Lx = La ∨ Lx = L))) := by
  obtain ⟨a1, a2, a3, a4⟩ := h
  rcases a4 with ⟨b1, d, h0, h1, b2, b3, _, b5, b6, b7, b8⟩ | ⟨b1, b2, b3, b4, d, h0, h1, b5, b6, b7, b8, b9, b10⟩
  · refine (crash_inR v ks b2.disk (by rw [b5]; simp; omega) hv).mono ?_
    rintro ex w' ⟨rfl, k1, k2⟩
    rw [crash_calm d ks b5] at k1
    exact ⟨rfl, k2, Ln, ⟨_, h0, h1, k1, b3, rfl, b5, b6, b7, b8⟩, a1, .inl ⟨b1, rfl⟩⟩
  · refine (crash_inR v ks b5 (by omega) hv).mono ?_
    rintro ex w' ⟨rfl, k1, k2⟩
    rcases b7 ks with hg | hg
    · exact ⟨rfl, k2, La, ⟨_, h0, h1, k1, b6, rfl, rfl, hg, b8, b10⟩, hra, .inr ⟨b1, b3, .inl rfl⟩⟩
    · exact ⟨rfl, k2, L, ⟨_, _, _, k1, b6, rfl, rfl, hg, b9, b10⟩, b4, .inr ⟨b1, b3, .inr rfl⟩⟩
theorem load_aft (h : Aft B w0 w bd n sb G C La L Ln R e lim) (he : e ≠ 8) (hl : Ln.length < 1000000) :
    Calls Tryz.prog 15 #[.pointer (some ⟨sb, 0, none⟩)] w fun e w' => ∃ v', e = .returned v' ∧ OwnC 29 2 ff w.heap.size w' v' Ln ∧ Below w.heap.size w w' := by
  obtain ⟨_, _, _, ⟨_, d, h0, h1, b2, _⟩ | ⟨b1, _⟩⟩ := h
  · exact load_any b2 hl
  · exact absurd b1 he
theorem pending_aft (h : Aft B w0 w bd n sb G C La L Ln R e lim) (he : e ≠ 8) :
    Calls Tryz.prog 44 #[.pointer (some ⟨bd, 0, none⟩)] w fun e w' => e = .returned (.int .i64 0) ∧ w = w' := by
  obtain ⟨_, _, _, ⟨_, d, h0, h1, b2, _, _, b5, _⟩ | ⟨b1, _⟩⟩ := h
  · have := pending_in b2.disk.to_in
    rw [b5] at this
    exact this
  · exact absurd b1 he
theorem Aft.calm (h : Aft B w0 w bd n sb G C La L Ln R e lim) (he : e ≠ 8) (hl : lim < 0) : Calm B w0 w bd n sb G C Ln R := by
  obtain ⟨_, _, _, ⟨_, d, h0, h1, b2, b3, b4, b5⟩ | ⟨b1, _⟩⟩ := h
  · exact ⟨d, h0, h1, b2, b3, b4 hl, b5⟩
  · exact absurd b1 he
end
end Go.Proofs.YtkoegbjnhoecoaaGreatDoor
