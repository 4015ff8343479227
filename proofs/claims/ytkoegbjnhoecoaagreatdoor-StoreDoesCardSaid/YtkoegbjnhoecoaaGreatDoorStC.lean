/- What maps of few small files hold; a disk with nothing pending behind a crash. -/
import Derived.Test.YtkoegbjnhoecoaaGreatDoorStB
import Derived.Test.YtkoegbjnhoecoaaGreatDoorWrMo
namespace Go.Proofs.YtkoegbjnhoecoaaGreatDoor
open Go.RowKit Tx

theorem ins_mem {l : List Wr.F} {f g : Wr.F} (h : g ∈ Wr.ins l f) : g = f ∨ g ∈ l := by
  unfold Wr.ins at h
  rcases List.mem_append.1 h with h | h
  · exact .inr ((List.takeWhile_sublist _).subset h)
  · rcases List.mem_cons.1 h with h | h
    · exact .inl h
    · exact .inr ((List.dropWhile_sublist _).subset h)
theorem ins_length (l : List Wr.F) (f : Wr.F) : (Wr.ins l f).length = l.length + 1 := by
  unfold Wr.ins
  have := congrArg List.length (List.takeWhile_append_dropWhile (p := fun g => Wr.less g.1 f.1) (l := l))
  simp only [List.length_append, List.length_cons] at this ⊢
  omega
theorem mapS_small (b n : Nat) (m : List Wr.F) (f : Wr.F) (h : m.length ≤ n ∧ ∀ g ∈ m, g.2.length ≤ b) : (Wr.mapS b m f).length ≤ n + 1 ∧ ∀ g ∈ Wr.mapS b m f, g.2.length ≤ b := by
  unfold Wr.mapS
  match hp : Wr.putF m (f.1, f.2.take b) with
  | .error e => exact ⟨by simp only; omega, h.2⟩
  | .ok k =>
    have he : putE m (f.1, f.2.take b) = 0 := by unfold putE; rw [hp]
    have hk : k = Wr.ins (Wr.dropF m f.1) (f.1, f.2.take b) := by
      unfold Wr.putF at hp
      split at hp
      · cases hp
      · split at hp
        · cases hp
        · injection hp with hp; exact hp.symm
    simp only
    rw [hk]
    refine ⟨?_, fun g hg => ?_⟩
    · rw [ins_length]
      have := dropF_le m f.1
      omega
    · rcases ins_mem hg with rfl | hg
      · simp; omega
      · exact h.2 g (List.mem_filter.1 hg).1
theorem mapF_small (l : List Wr.F) (n b : Nat) : (Wr.mapF l n b).length ≤ n ∧ ∀ g ∈ Wr.mapF l n b, g.2.length ≤ b := by
  have key : ∀ (x m : List Wr.F) (k : Nat), (m.length ≤ k ∧ ∀ g ∈ m, g.2.length ≤ b) → (x.foldl (Wr.mapS b) m).length ≤ k + x.length ∧ ∀ g ∈ x.foldl (Wr.mapS b) m, g.2.length ≤ b := by
    intro x
    induction x with
    | nil => intro m k h; simpa using h
    | cons f x ih =>
      intro m k h
      have h2 := ih (Wr.mapS b m f) (k + 1) (mapS_small b k m f h)
      simp only [List.foldl_cons, List.length_cons]
      exact ⟨by omega, h2.2⟩
  have := key (l.take n) [] 0 (by simp)
  unfold Wr.mapF
  refine ⟨?_, this.2⟩
  have h3 := this.1
  simp only [List.length_take] at h3
  omega
theorem small_files (l : List Wr.F) (n b : Nat) (_hb : b ≤ 4000) (hr : Wr.right l = true) (h : l.length ≤ n ∧ ∀ g ∈ l, g.2.length ≤ b) : (Wr.files l).length ≤ n * (b + 64) := by
  have key : ∀ m : List Wr.F, (∀ f ∈ m, Wr.fileOk f = true) → (∀ g ∈ m, g.2.length ≤ b) → (Wr.files m).length ≤ m.length * (b + 64) := by
    intro m
    induction m with
    | nil => intro _ _; simp [Wr.files]
    | cons f m ih =>
      intro hm hq
      have h1 := Wr.fileOk_len (hm f (by simp))
      have h2 := ih (fun g hg => hm g (by simp [hg])) (fun g hg => hq g (by simp [hg]))
      have h3 := hq f (by simp)
      have d1 := dig_len f.1.length (by omega)
      have d2 := dig_len f.2.length (by omega)
      have e : (Wr.files (f :: m)).length = (Wr.put f.1).length + (Wr.put f.2).length + (Wr.files m).length := by simp [Wr.files]; omega
      rw [e]
      simp only [Wr.put, List.length_append, List.length_cons, List.length_nil, Nat.add_mul, Nat.one_mul]
      omega
  exact Nat.le_trans (key l (Wr.right_of hr).ok h.2) (Nat.mul_le_mul_right _ h.1)
theorem map40 (l : List Wr.F) : Wr.right (Wr.mapF l 6 40) = true ∧ (Wr.files (Wr.mapF l 6 40)).length ≤ 624 ∧ ∀ f ∈ Wr.mapF l 6 40, FOk f := by
  have hr := (Wr.mapF_right l 6 40).right
  refine ⟨hr, small_files _ 6 40 (by omega) hr (mapF_small l 6 40), fun f hf => ?_⟩
  have := Wr.fileOk_len ((Wr.mapF_right l 6 40).ok f hf)
  exact ⟨by simp only [maxLen]; omega, by simp only [maxLen]; omega⟩
theorem crash_calm (d : Dk.St) (ks : List Bool) (hp : d.pend = []) : Dk.crash d ks = { d with lim := none } := by
  unfold Dk.crash
  rw [hp, Sq.kept_nil]
  cases d
  simp only at hp
  subst hp
  rfl
theorem inR_sub {B : Nat} {w0 w : World} {bd : Nat} {d : Dk.St} {R R' : List Nat} (h : Dk.InR B w0 w bd d R') (hs : ∀ k ∈ R, k ∈ R') : Dk.InR B w0 w bd d R :=
  h.turn (Moved.refl _ _) (fun k hk => ⟨.inl (hs k hk), (h.2.2.1 k (hs k hk)).1⟩)
theorem rowK_own {B b : Nat} {w w' : World} {R : List Nat} {sb : Nat} {v : Value} {l : List Wr.F} (h : OwnC 29 2 ff b w v l) (hb : Below w.heap.size w w') (hR : ∀ k, v.ownBlock = some k → k ∈ R) (hsb : sb < b) : RowK B R sb w' v l :=
  ⟨(h.below hb).rowC ff_length, h.nilOr, fun _ k hk => .inr ⟨hR k hk, by have := (h.lt k hk).1; omega⟩⟩
end Go.Proofs.YtkoegbjnhoecoaaGreatDoor
