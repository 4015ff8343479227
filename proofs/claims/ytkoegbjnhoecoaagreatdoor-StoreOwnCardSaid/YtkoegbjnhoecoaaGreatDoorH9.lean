/- What maps of few small files hold; a disk with nothing pending behind a crash. · A store, and a disk, with nothing pending and no limit. · Rows of files, and one file, as they come in. -/
import Derived.Test.YtkoegbjnhoecoaaGreatDoorH8
import Derived.Test.YtkoegbjnhoecoaaGreatDoorRows
import Derived.Test.YtkoegbjnhoecoaaGreatDoorH1
import Derived.Test.YtkoegbjnhoecoaaGreatDoorH3
import Derived.ChangeArms
import Derived.WideKeyPair
namespace Go.Proofs.YtkoegbjnhoecoaaGreatDoor
open Go.RowKit Tx

theorem ins_mem {l : List Wr.F} {f g : Wr.F} (h : g ∈ Wr.ins l f) : g = f ∨ g ∈ l := by
  unfold Wr.ins at h
  rcases List.mem_append.1 h with h | h
  · exact .inr ((List.takeWhile_sublist _).subset h)
  · rcases List.mem_cons.1 h with h | h
    · exact .inl h
    · exact .inr ((List.dropWhile_sublist _).subset h)
theorem ins_length (l : List Wr.F) (f : Wr.F) : (Wr.ins l f).length = l.length + 1 := by
  unfold Wr.ins
  have := congrArg List.length (List.takeWhile_append_dropWhile (p := fun g => Wr.less g.1 f.1) (l := l))
  simp only [List.length_append, List.length_cons] at this ⊢
  omega
theorem mapS_small (b n : Nat) (m : List Wr.F) (f : Wr.F) (h : m.length ≤ n ∧ ∀ g ∈ m, g.2.length ≤ b) : (Wr.mapS b m f).length ≤ n + 1 ∧ ∀ g ∈ Wr.mapS b m f, g.2.length ≤ b := by
  unfold Wr.mapS
  match hp : Wr.putF m (f.1, f.2.take b) with
  | .error e => exact ⟨by simp only; omega, h.2⟩
  | .ok k =>
    have he : putE m (f.1, f.2.take b) = 0 := by unfold putE; rw [hp]
    have hk : k = Wr.ins (Wr.dropF m f.1) (f.1, f.2.take b) := by
      unfold Wr.putF at hp
      split at hp
      · cases hp
      · split at hp
        · cases hp
        · injection hp with hp; exact hp.symm
    simp only
    rw [hk]
    refine ⟨?_, fun g hg => ?_⟩
    · rw [ins_length]
      have := dropF_le m f.1
      omega
    · rcases ins_mem hg with rfl | hg
      · simp; omega
      · exact h.2 g (List.mem_filter.1 hg).1
theorem mapF_small (l : List Wr.F) (n b : Nat) : (Wr.mapF l n b).length ≤ n ∧ ∀ g ∈ Wr.mapF l n b, g.2.length ≤ b := by
  have key : ∀ (x m : List Wr.F) (k : Nat), (m.length ≤ k ∧ ∀ g ∈ m, g.2.length ≤ b) → (x.foldl (Wr.mapS b) m).length ≤ k + x.length ∧ ∀ g ∈ x.foldl (Wr.mapS b) m, g.2.length ≤ b := by
    intro x
    induction x with
    | nil => intro m k h; simpa using h
    | cons f x ih =>
      intro m k h
      have h2 := ih (Wr.mapS b m f) (k + 1) (mapS_small b k m f h)
      simp only [List.foldl_cons, List.length_cons]
      exact ⟨by omega, h2.2⟩
  have := key (l.take n) [] 0 (by simp)
  unfold Wr.mapF
  refine ⟨?_, this.2⟩
  have h3 := this.1
  simp only [List.length_take] at h3
  omega
theorem small_files (l : List Wr.F) (n b : Nat) (_hb : b ≤ 4000) (hr : Wr.right l = true) (h : l.length ≤ n ∧ ∀ g ∈ l, g.2.length ≤ b) : (Wr.files l).length ≤ n * (b + 64) := by
  have key : ∀ m : List Wr.F, (∀ f ∈ m, Wr.fileOk f = true) → (∀ g ∈ m, g.2.length ≤ b) → (Wr.files m).length ≤ m.length * (b + 64) := by
    intro m
    induction m with
    | nil => intro _ _; simp [Wr.files]
    | cons f m ih =>
      intro hm hq
      have h1 := Wr.fileOk_len (hm f (by simp))
      have h2 := ih (fun g hg => hm g (by simp [hg])) (fun g hg => hq g (by simp [hg]))
      have h3 := hq f (by simp)
      have d1 := dig_len f.1.length (by omega)
      have d2 := dig_len f.2.length (by omega)
      have e : (Wr.files (f :: m)).length = (Wr.put f.1).length + (Wr.put f.2).length + (Wr.files m).length := by simp [Wr.files]; omega
      rw [e]
      simp only [Wr.put, List.length_append, List.length_cons, List.length_nil, Nat.add_mul, Nat.one_mul]
      omega
  exact Nat.le_trans (key l (Wr.right_of hr).ok h.2) (Nat.mul_le_mul_right _ h.1)
theorem map40 (l : List Wr.F) : Wr.right (Wr.mapF l 6 40) = true ∧ (Wr.files (Wr.mapF l 6 40)).length ≤ 624 ∧ ∀ f ∈ Wr.mapF l 6 40, FOk f := by
  have hr := (Wr.mapF_right l 6 40).right
  refine ⟨hr, small_files _ 6 40 (by omega) hr (mapF_small l 6 40), fun f hf => ?_⟩
  have := Wr.fileOk_len ((Wr.mapF_right l 6 40).ok f hf)
  exact ⟨by simp only [maxLen]; omega, by simp only [maxLen]; omega⟩
theorem crash_calm (d : Dk.St) (ks : List Bool) (hp : d.pend = []) : Dk.crash d ks = { d with lim := none } := by
  unfold Dk.crash
  rw [hp, Sq.kept_nil]
  cases d
  simp only at hp
  subst hp
  rfl
theorem inR_sub {B : Nat} {w0 w : World} {bd : Nat} {d : Dk.St} {R R' : List Nat} (h : Dk.InR B w0 w bd d R') (hs : ∀ k ∈ R, k ∈ R') : Dk.InR B w0 w bd d R :=
  h.turn (Moved.refl _ _) (fun k hk => ⟨.inl (hs k hk), (h.2.2.1 k (hs k hk)).1⟩)
theorem rowK_own {B b : Nat} {w w' : World} {R : List Nat} {sb : Nat} {v : Value} {l : List Wr.F} (h : OwnC 29 2 ff b w v l) (hb : Below w.heap.size w w') (hR : ∀ k, v.ownBlock = some k → k ∈ R) (hsb : sb < b) : RowK B R sb w' v l :=
  ⟨(h.below hb).rowC ff_length, h.nilOr, fun k hk => .inr ⟨hR k hk, by have := (h.lt k hk).1; omega⟩⟩
end Go.Proofs.YtkoegbjnhoecoaaGreatDoor
namespace Go.Proofs.YtkoegbjnhoecoaaGreatDoor
open Go.RowKit Tx

/-- A disk with nothing pending on which these files were committed last. -/
def DiskIs (B : Nat) (w0 w : World) (bd n G C : Nat) (L : List Wr.F) (R : List Nat) : Prop :=
  ∃ (d : Dk.St) (h0 h1 : Sq.Head), Dk.InR B w0 w bd d R ∧ d.n = (n : Int) ∧ d.lim = none ∧ d.pend = [] ∧ Sq.Good n d.held h0 h1 (Wr.files L) ∧ HBd G h0 h1 ∧ d.cnt ≤ C
/-- A store on it. -/
def Calm (B : Nat) (w0 w : World) (bd n sb G C : Nat) (L : List Wr.F) (R : List Nat) : Prop :=
  ∃ (d : Dk.St) (h0 h1 : Sq.Head), StIn B w0 w bd d sb h0 h1 L R ∧ d.n = (n : Int) ∧ d.lim = none ∧ d.pend = [] ∧ Sq.Good n d.held h0 h1 (Wr.files L) ∧ HBd G h0 h1 ∧ d.cnt ≤ C
section
variable {B : Nat} {w0 w w' : World} {bd n sb G C : Nat} {L : List Wr.F} {R : List Nat}
theorem Calm.disk (h : Calm B w0 w bd n sb G C L R) : DiskIs B w0 w bd n G C L R := by
  obtain ⟨d, h0, h1, a, b⟩ := h
  exact ⟨d, h0, h1, a.disk, b⟩
theorem Calm.mem (h : Calm B w0 w bd n sb G C L R) : sb ∈ R ∧ sb < w.heap.size := by
  obtain ⟨d, h0, h1, a, b⟩ := h
  exact ⟨a.mem, (a.disk.2.2.1 sb a.mem).1⟩
theorem DiskIs.bel (h : DiskIs B w0 w bd n G C L R) : B ≤ w.heap.size ∧ Below B w0 w ∧ ∀ k ∈ R, k < w.heap.size ∧ B ≤ k := by
  obtain ⟨d, h0, h1, a, b⟩ := h
  exact ⟨a.1, a.2.1, a.2.2.1⟩
theorem Calm.below (h : Calm B w0 w bd n sb G C L R) (hb : Below w.heap.size w w') : Calm B w0 w' bd n sb G C L R := by
  obtain ⟨d, h0, h1, a, b⟩ := h
  exact ⟨d, h0, h1, a.below hb, b⟩
theorem Calm.more (h : Calm B w0 w bd n sb G C L R) (hb : Below w.heap.size w w') (K : List Nat) (hK : ∀ k ∈ K, w.heap.size ≤ k ∧ k < w'.heap.size) : Calm B w0 w' bd n sb G C L (K ++ R) := by
  obtain ⟨d, h0, h1, a, b⟩ := h
  exact ⟨d, h0, h1, a.more hb K hK, b⟩
theorem DiskIs.below (h : DiskIs B w0 w bd n G C L R) (hb : Below w.heap.size w w') : DiskIs B w0 w' bd n G C L R := by
  obtain ⟨d, h0, h1, a, b⟩ := h
  exact ⟨d, h0, h1, (a.below hb).1, b⟩
theorem DiskIs.sub {R' : List Nat} (h : DiskIs B w0 w bd n G C L R') (hs : ∀ k ∈ R, k ∈ R') : DiskIs B w0 w bd n G C L R := by
  obtain ⟨d, h0, h1, a, b⟩ := h
  exact ⟨d, h0, h1, inR_sub a hs, b⟩
theorem on_calm (h4 : 4 ≤ n ∧ n ≤ 4096) (hB : B ≤ w.heap.size) (hb : Below B w0 w) (hg : ∀ wx, Below B w0 wx → Gl wx) :
    Calls Tryz.prog 10 #[.int .i64 n] w fun e w' => ∃ sb bd R, e = .returned (.tuple #[.pointer (some ⟨sb, 0, none⟩), .pointer (some ⟨bd, 0, none⟩)]) ∧ Calm B w0 w' bd n sb 0 0 [] R ∧ Below w.heap.size w w' ∧ w.heap.size ≤ sb :=
  (on_any n h4 hB hb hg).mono fun e w' ⟨sb, bd, R, h1, h2, h3, h5⟩ => ⟨sb, bd, R, h1, ⟨_, _, _, h2, rfl, rfl, rfl, Sq.Good.fresh n, ⟨by simp, by simp, by simp, by simp⟩, Nat.le_refl _⟩, h3, h5⟩
theorem commit_calm (h : Calm B w0 w bd n sb G C L R) (h4 : 4 ≤ n ∧ n ≤ 4096) (hG : G ≤ 100) (hC : C < 700000) (lv : Value) (K : List Wr.F) (hK : RowK B R sb w lv K) (hr : Wr.right K = true) (hU : (Wr.files K).length ≤ 64 * Sq.half n) (hg : ∀ wx, Below B w0 wx → Gl wx) :
    Calls Tryz.prog 12 #[.pointer (some ⟨sb, 0, none⟩), lv] w fun e w' => e = .returned (.int .i64 0) ∧ ∃ R', Calm B w0 w' bd n sb (G + 1) (C + Sq.cnt (Wr.files K) + 1) K R' ∧ (∀ k ∈ R, k ∈ R') ∧ ∀ k ∈ R, k ≠ sb → w'.heap[k]? = w.heap[k]? := by
  obtain ⟨d, h0, h1, a, b1, b2, b3, b4, b5, b6⟩ := h
  have hok : ∀ f ∈ K, FOk f := fun f hf => by
    have := Wr.fileOk_len ((Wr.right_of hr).ok f hf)
    exact ⟨by simp only [maxLen]; omega, by simp only [maxLen]; omega⟩
  have hl := files_len K hr
  have c0 := b5.a0
  have c1 := b5.a1
  have c2 := b5.b0
  have c3 := b5.b1
  refine (commit_any n (Wr.files L) lv K a hK b1 h4 b3 (by omega) b4 (by omega) (by omega) hr hU hok hg).mono ?_
  rintro e w' ⟨hs, ⟨rfl, d', R', k1, k2, k3, k4, k5, k6, _⟩ | ⟨_, d', _, _, _, _, hx, _⟩⟩
  · exact ⟨rfl, R', ⟨d', _, _, k1, k3.n.trans b1, k3.live b2, k4, k5, b5.next _ (by omega), by omega⟩, k2, hs⟩
  · exact absurd b2 hx
theorem open_calm (h : DiskIs B w0 w bd n G C L R) (h4 : 4 ≤ n ∧ n ≤ 4096) (hG : G ≤ 100) (hr : Wr.right L = true) (hg : ∀ wx, Below B w0 wx → Gl wx) :
    Calls Tryz.prog 18 #[.pointer (some ⟨bd, 0, none⟩)] w fun e w' => ∃ st R', e = .returned (.tuple #[.pointer (some ⟨st, 0, none⟩), .int .i64 0]) ∧ Calm B w0 w' bd n st G C L R' ∧ w.heap.size ≤ st ∧ (∀ k ∈ R, k ∈ R') ∧ Below w.heap.size w w' := by
  obtain ⟨d, h0, h1, a, b1, b2, b3, b4, b5, b6⟩ := h
  have c0 := b5.a0
  have c1 := b5.a1
  have c2 := b5.b0
  have c3 := b5.b1
  refine (open_any n h0 h1 (Wr.files L) a b1 h4 b3 b4 (by omega) (by omega) (hg _ a.2.1)).mono ?_
  rintro e w' ⟨st, R', rfl, k1, k2, k3, k4⟩
  rw [parL_files hr] at k1
  exact ⟨st, R', rfl, ⟨d, h0, h1, k1, b1, b2, b3, b4, b5, b6⟩, k2, k3, k4⟩
theorem crash_calmD (h : DiskIs B w0 w bd n G C L R) (hC : C < 900000) (v : Value) (ks : List Bool) (hv : Row Value.bool w B v ks) :
    Calls Tryz.prog 17 #[.pointer (some ⟨bd, 0, none⟩), v] w fun e w' => e = .returned (.tuple #[]) ∧ DiskIs B w0 w' bd n G C L R ∧ Dk.Same R w w' := by
  obtain ⟨d, h0, h1, a, b1, b2, b3, b4, b5, b6⟩ := h
  refine (crash_inR v ks a (by rw [b3]; simp; omega) hv).mono ?_
  rintro e w' ⟨rfl, k1, k2⟩
  rw [crash_calm d ks b3] at k1
  exact ⟨rfl, ⟨_, h0, h1, k1, b1, rfl, b3, b4, b5, b6⟩, k2⟩
theorem load_calm (h : Calm B w0 w bd n sb G C L R) (hl : L.length < 1000000) :
    Calls Tryz.prog 15 #[.pointer (some ⟨sb, 0, none⟩)] w fun e w' => ∃ v', e = .returned v' ∧ OwnC 29 2 ff w.heap.size w' v' L ∧ Below w.heap.size w w' := by
  obtain ⟨d, h0, h1, a, b⟩ := h
  exact load_any a hl
end
/-- A row of Bools as it came in, in whatever world comes behind. -/
theorem bools_to {w w' : World} {v : Value} {ks : List Bool} (h : Row Value.bool w w.heap.size v ks) (hb : Below w.heap.size w w') : Row Value.bool w' w.heap.size v ks := h.below hb (Nat.le_refl _)
theorem below_drewN' {B : Nat} {w0 w : World} (h : Below B w0 w) (n : Nat) : Below B w0 (w.drewN n) := h.trans (below_of_drewN n)
end Go.Proofs.YtkoegbjnhoecoaaGreatDoor
namespace Go.Proofs.YtkoegbjnhoecoaaGreatDoor
open Go.RowKit Tx Go.WideShapes

section
variable {H : Type} {enc : TypeId × Value → H} {P : Program} {w : World} {base : Nat} {spare : Nat → Bool} {held : Bool} {t e : TypeId} {a : Option Addr} {len cap : Nat} {d : DataW H} {p : List MemPlace}
/-- A cell of a struct's field that is a text. -/
theorem f_field_string {fuel : Nat} {cs : List Value} {x : Option (DataW H × List MemPlace)} {i : Nat} (he : P.underlying e = some .string) (hi : i < cs.length) (h : DataW.trod enc P w base spare held fuel e ((cs.drop i).take 1) = x) (hx : x.isSome = true) :
    ∃ l : Bs, cs[i]? = some (.string (bs l)) ∧ l.length ≤ maxLen := by
  obtain ⟨y, rfl⟩ := Option.isSome_iff_exists.1 hx
  obtain ⟨s, h1, _, h2⟩ := DataW.trod_string he h
  refine ⟨s.data.toList, ?_, by rw [size_list]; exact h2⟩
  rw [bs_of]
  have := congrArg (fun z : List Value => z[0]?) h1
  simpa [hi] using this
theorem read_file {fs : Array Field} (ht : P.underlying t = some (.struct fs)) (hf : fs.toList.map (fun f => (f.type, f.offset)) = [(e, 0), (e, 1)]) (he : P.underlying e = some .string) (hc : P.cellsOf t = 2) (hce : P.cellsOf e = 1) :
    ∀ fuel cs y, DataW.trod enc P w base spare held fuel t cs = some y → ∃ a : Wr.F, cs = ff a ∧ FOk a := by
  intro fuel cs y h
  obtain ⟨xs, m, _, _, h1, h2, h3⟩ := DataW.trod_struct ht h
  have hs : fs.size = 2 := by have := congrArg List.length hf; simpa using this
  rw [hc] at h1
  have each : ∀ i, i < 2 → ∃ l : Bs, cs[i]? = some (.string (bs l)) ∧ l.length ≤ maxLen := by
    intro i hi
    have h4 : (fs.toList.map (fun f => (f.type, f.offset)))[i]? = some (e, i) := by
      rw [hf]
      rcases i with _ | _ | i
      · rfl
      · rfl
      · omega
    rw [List.getElem?_map] at h4
    obtain ⟨f, h5, h6⟩ := Option.map_eq_some_iff.1 h4
    injection h6 with h7 h8
    have h9 := h3 i f (by rw [← Array.getElem?_toList]; exact h5)
    rw [h7, h8, hce] at h9
    exact f_field_string he (by omega) h9 (by rw [List.getElem?_eq_getElem (by omega)]; rfl)
  obtain ⟨l0, a0, b0⟩ := each 0 (by omega)
  obtain ⟨l1, a1, b1⟩ := each 1 (by omega)
  refine ⟨(l0, l1), ?_, b0, b1⟩
  apply List.ext_getElem?
  intro i
  rcases i with _ | _ | i
  · exact a0
  · exact a1
  · rw [List.getElem?_eq_none (by omega), List.getElem?_eq_none (by simp)]
theorem in_files {fs : Array Field} {k : TypeId} (hl : P.underlying t = some (.slice e)) (ht : P.underlying e = some (.struct fs)) (hf : fs.toList.map (fun f => (f.type, f.offset)) = [(k, 0), (k, 1)]) (he : P.underlying k = some .string) (hc : P.cellsOf e = 2) (hce : P.cellsOf k = 1)
    (h : DataW.Trod enc P w base spare held t (.slice a len cap) d p) : ∃ xs : List Wr.F, xs.length = len ∧ RowC 2 ff w w.heap.size (.slice a len cap) xs ∧ ∀ x ∈ xs, FOk x :=
  rowC_open 2 ff FOk hl hc (by decide) (read_file ht hf he hc hce) h
theorem in_file {fs : Array Field} {k : TypeId} (ht : P.underlying t = some (.struct fs)) (hf : fs.toList.map (fun f => (f.type, f.offset)) = [(k, 0), (k, 1)]) (he : P.underlying k = some .string) (hc : P.cellsOf t = 2) (hce : P.cellsOf k = 1)
    {r : Reach} {b0 : Nat} {v : Value} (hval : Value.okWide P w r b0 t v) (h : DataW.Trod enc P w base spare held t v d p) : ∃ a : Wr.F, v = .agg #[.string (bs a.1), .string (bs a.2)] ∧ FOk a := by
  obtain ⟨cs, rfl, hs⟩ := okWide_struct ht hval
  obtain ⟨m, hm⟩ := h
  obtain ⟨a, e, hb⟩ := read_file ht hf he hc hce m _ _ hm
  refine ⟨a, ?_, hb⟩
  obtain ⟨l⟩ := cs
  have e' : l = ff a := e
  rw [e']
end
end Go.Proofs.YtkoegbjnhoecoaaGreatDoor
