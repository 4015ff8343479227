/- The document's disk, in plain Lean, and how it goes with the program's. -/
import Derived.Test.YtienbgfmhllgmaaDk4
namespace Go.Proofs.Ytienbgfmhllgmaa

namespace Rd
structure St where
  L : List ByteArray
  pend : List Dk.Wr
  left : Int
def used (l : Int) : Int := if 0 < l then l - 1 else l
def rd (l : List Dk.Wr) (i : Int) (s : ByteArray) : ByteArray := l.foldl (fun a w => if w.1 = i then w.2 else a) s
def has (t : St) (i : Int) : Bool := decide (0 ≤ i) && decide (i < t.L.length)
def get (L : List ByteArray) (i : Int) : ByteArray := L[i.toNat]?.getD ⟨#[]⟩
def read (t : St) (i : Int) : ByteArray × Int := if has t i = false then (⟨#[]⟩, 1) else (rd t.pend i (get t.L i), 0)
def write (t : St) (i : Int) (s : ByteArray) : Int × St :=
  if has t i = false then (1, t) else if 64 < s.size then (3, t) else if t.left = 0 then (8, t) else (0, { t with left := used t.left, pend := t.pend ++ [(i, s)] })
def sets (L : List ByteArray) (l : List Dk.Wr) : List ByteArray := l.foldl (fun L w => L.set w.1.toNat w.2) L
def sync (t : St) : Int × St := if t.left = 0 then (8, t) else (0, { left := used t.left, L := sets t.L t.pend, pend := [] })
def crash (t : St) (keep : List Bool) : St := { L := sets t.L (Dk.kept t.pend keep), pend := [], left := -1 }
def limit (t : St) (n : Int) : St := { t with left := max 0 n }

theorem has_true {t : St} {i : Int} (h : ¬ has t i = false) : 0 ≤ i ∧ i < t.L.length := by
  rw [Bool.not_eq_false] at h
  simpa [has] using h
theorem sets_length (l : List Dk.Wr) : ∀ L, (sets L l).length = L.length := by
  induction l with
  | nil => intro L; rfl
  | cons a l ih => intro L; show (sets (L.set _ _) l).length = _; rw [ih]; simp
theorem sets_append (L : List ByteArray) (l m : List Dk.Wr) : sets L (l ++ m) = sets (sets L l) m := by simp [sets, List.foldl_append]
theorem rd_append (l m : List Dk.Wr) (i : Int) (s : ByteArray) : rd (l ++ m) i s = rd m i (rd l i s) := by simp [rd, List.foldl_append]
theorem sets_get (l : List Dk.Wr) (i : Int) (hi : 0 ≤ i) : ∀ L : List ByteArray, i < L.length → (∀ u ∈ l, 0 ≤ u.1) → get (sets L l) i = rd l i (get L i) := by
  induction l with
  | nil => intro L _ _; rfl
  | cons a l ih =>
    intro L hl hu
    show get (sets (L.set a.1.toNat a.2) l) i = rd l i (if a.1 = i then a.2 else get L i)
    rw [ih _ (by simpa using hl) (fun u hm => hu u (List.mem_cons_of_mem _ hm))]
    congr 1
    have h0 := hu a (List.mem_cons_self ..)
    unfold get
    by_cases h : a.1 = i
    · rw [if_pos h, ← h, List.getElem?_set_self (by omega)]; rfl
    · rw [if_neg h, List.getElem?_set_ne (by omega)]
def tx (o : Option Dk.Wr) : ByteArray := match o with | some w => w.2 | none => ⟨#[]⟩
theorem puts_rd (l : List Dk.Wr) (i : Int) : ∀ h : Int → Option Dk.Wr, tx (Dk.puts h l i) = rd l i (tx (h i)) := by
  induction l with
  | nil => intro h; rfl
  | cons a l ih =>
    intro h
    show tx (Dk.puts (Dk.put h a) l i) = rd l i (if a.1 = i then a.2 else tx (h i))
    rw [ih]
    congr 1
    unfold Dk.put
    by_cases he : i = a.1
    · rw [if_pos he, if_pos he.symm]; rfl
    · rw [if_neg he, if_neg (fun e => he e.symm)]
theorem kept_mem (l : List Dk.Wr) : ∀ (ks : List Bool) (u : Dk.Wr), u ∈ Dk.kept l ks → u ∈ l := by
  induction l with
  | nil => intro ks u h; simp [Dk.kept] at h
  | cons a l ih =>
    intro ks u h
    cases ks with
    | nil => simp [Dk.kept] at h
    | cons k ks =>
      simp only [Dk.kept] at h
      split at h
      · rcases List.mem_cons.1 h with rfl | h
        · exact List.mem_cons_self ..
        · exact List.mem_cons_of_mem _ (ih ks u h)
      · exact List.mem_cons_of_mem _ (ih ks u h)

/-- The program's disk and the document's are the same. -/
structure Rel (s : Dk.St) (t : St) : Prop where
  n : s.n = t.L.length
  pend : t.pend = s.pend
  rng : ∀ u ∈ t.pend, 0 ≤ u.1 ∧ u.1 < t.L.length
  held : ∀ i : Int, 0 ≤ i → i < t.L.length → get t.L i = tx (s.held i)
  lim : (s.lim = none ∧ t.left = -1) ∨ ∃ k, s.lim = some k ∧ t.left = max 0 k

theorem Rel.has {s : Dk.St} {t : St} (h : Rel s t) (i : Int) : Dk.has s i = Rd.has t i := by
  unfold Dk.has Rd.has
  rw [h.n]
theorem Rel.dead {s : Dk.St} {t : St} (h : Rel s t) : Dk.dead s.lim = true ↔ t.left = 0 := by
  rcases h.lim with ⟨h1, h2⟩ | ⟨k, h1, h2⟩
  · rw [h1, h2]; simp [Dk.dead]
  · rw [h1, h2]
    simp only [Dk.dead, decide_eq_true_eq]
    omega
theorem Rel.used {s : Dk.St} {t : St} (h : Rel s t) (hd : ¬ t.left = 0) : (Dk.used s.lim = none ∧ Rd.used t.left = -1) ∨ ∃ k, Dk.used s.lim = some k ∧ Rd.used t.left = max 0 k := by
  unfold Rd.used
  rcases h.lim with ⟨h1, h2⟩ | ⟨k, h1, h2⟩
  · exact .inl ⟨by rw [h1]; rfl, by rw [h2]; decide⟩
  · exact .inr ⟨k - 1, by rw [h1]; rfl, by rw [if_pos (by omega)]; omega⟩
theorem Rel.read {s : Dk.St} {t : St} (h : Rel s t) (i : Int) : Rd.read t i = Dk.read s i := by
  unfold Rd.read Dk.read
  rw [h.has]
  split
  · rfl
  · rename_i hh
    replace hh := has_true hh
    have e : Dk.at_ s i = tx (Dk.puts s.held s.pend i) := rfl
    rw [e, puts_rd, h.pend, h.held i hh.1 hh.2]
theorem Rel.write {s : Dk.St} {t : St} (h : Rel s t) (i : Int) (u : ByteArray) : (Rd.write t i u).1 = (Dk.write s i u).1 ∧ Rel (Dk.write s i u).2 (Rd.write t i u).2 := by
  unfold Rd.write Dk.write
  rw [h.has]
  by_cases hh : Rd.has t i = false
  · rw [if_pos hh, if_pos hh]; exact ⟨rfl, h⟩
  · rw [if_neg hh, if_neg hh]
    by_cases hs : 64 < u.size
    · rw [if_pos hs, if_pos hs]; exact ⟨rfl, h⟩
    · rw [if_neg hs, if_neg hs]
      by_cases hd : t.left = 0
      · rw [if_pos hd, if_pos (h.dead.2 hd)]; exact ⟨rfl, h⟩
      · rw [if_neg hd, if_neg (fun e => hd (h.dead.1 e))]
        replace hh := has_true hh
        refine ⟨rfl, h.n, by simp [h.pend], fun v hv => ?_, h.held, h.used hd⟩
        rcases List.mem_append.1 hv with hv | hv
        · exact h.rng v hv
        · simp at hv; subst hv; exact hh
theorem Rel.sync {s : Dk.St} {t : St} (h : Rel s t) : (Rd.sync t).1 = (Dk.sync s).1 ∧ Rel (Dk.sync s).2 (Rd.sync t).2 := by
  unfold Rd.sync Dk.sync
  by_cases hd : t.left = 0
  · rw [if_pos hd, if_pos (h.dead.2 hd)]; exact ⟨rfl, h⟩
  · rw [if_neg hd, if_neg (fun e => hd (h.dead.1 e))]
    refine ⟨rfl, by simp [sets_length, h.n], rfl, fun v hv => by simp at hv, fun i h0 h1 => ?_, h.used hd⟩
    rw [sets_length] at h1
    show get (sets t.L t.pend) i = tx (Dk.puts s.held s.pend i)
    rw [sets_get _ _ h0 _ h1 (fun u hu => (h.rng u hu).1), puts_rd, h.pend, h.held i h0 h1]
theorem Rel.crash {s : Dk.St} {t : St} (h : Rel s t) (ks : List Bool) : Rel (Dk.crash s ks) (Rd.crash t ks) := by
  refine ⟨by simp [Rd.crash, Dk.crash, sets_length, h.n], rfl, fun v hv => by simp [Rd.crash] at hv, fun i h0 h1 => ?_, .inl ⟨rfl, rfl⟩⟩
  rw [show (Rd.crash t ks).L = sets t.L (Dk.kept t.pend ks) from rfl, sets_length] at h1
  show get (sets t.L (Dk.kept t.pend ks)) i = tx (Dk.puts s.held (Dk.kept s.pend ks) i)
  rw [sets_get _ _ h0 _ h1 (fun u hu => (h.rng u (kept_mem _ _ _ hu)).1), puts_rd, h.pend, h.held i h0 h1]
theorem Rel.limit {s : Dk.St} {t : St} (h : Rel s t) (n : Int) : Rel { s with lim := some n } (Rd.limit t n) :=
  ⟨h.n, h.pend, h.rng, h.held, .inr ⟨n, rfl, rfl⟩⟩
theorem Rel.new (n : Nat) : Rel ⟨none, n, fun _ => none, 0, []⟩ ⟨List.replicate n ⟨#[]⟩, [], -1⟩ := by
  refine ⟨by simp, rfl, fun v hv => by simp at hv, fun i h0 h1 => ?_, .inl ⟨rfl, rfl⟩⟩
  simp only [List.length_replicate] at h1
  unfold get
  simp only
  rw [List.getElem?_replicate, if_pos (by omega)]
  rfl
end Rd
end Go.Proofs.Ytienbgfmhllgmaa
