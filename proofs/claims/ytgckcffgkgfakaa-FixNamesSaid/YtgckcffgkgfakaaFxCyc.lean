/- The walk of fix.Cycle. -/
import Derived.Test.YtgckcffgkgfakaaRows
import Derived.Test.YtgckcffgkgfakaaKit
import Derived.Test.YtgckcffgkgfakaaFxPl
import Derived.Test.YtgckcffgkgfakaaFxW1
import Derived.Test.YtgckcffgkgfakaaFxMay
namespace Go.Proofs.Ytgckcffgkgfakaa
open Go.RowKit

namespace Fx
def one (w : World) (b : Nat) (v : Value) (t : TypeId) : Prop := w.heap[b]? = some (.cells #[v] t (0, 0))
theorem one.keep {w w' : World} {b : Nat} {v : Value} {t : TypeId} (h : one w b v t) (hb : w'.heap[b]? = w.heap[b]?) : one w' b v t := hb.trans h
/-- The four boxes of Cycle: the table, where it starts, where the slow walker is, where the fast one. -/
structure Box (w0 w : World) (v : Value) (s a b : Nat) : Prop where
  bt : one w w0.heap.size v 22
  bs : one w (w0.heap.size + 1) (.int .i64 (s : Int)) 3
  ba : one w (w0.heap.size + 2) (.int .i64 (a : Int)) 3
  bb : one w (w0.heap.size + 3) (.int .i64 (b : Int)) 3
  below : Below w0.heap.size w0 w
theorem Box.drewN {w0 w : World} {v : Value} {s a b : Nat} (h : Box w0 w v s a b) (n : Nat) : Box w0 (w.drewN n) v s a b := ⟨h.bt, h.bs, h.ba, h.bb, below_drewN h.below n⟩
theorem Box.slow {w0 w : World} {v : Value} {s a b : Nat} (h : Box w0 w v s a b) (x : Nat) : Box w0 (w.setCell ⟨w0.heap.size + 2, 0, none⟩ (.int .i64 (x : Int))) v s x b :=
  ⟨h.bt.keep (Below.heap_setCell _ _ _ _ (by simp)), h.bs.keep (Below.heap_setCell _ _ _ _ (by simp)), one_setCell h.ba, h.bb.keep (Below.heap_setCell _ _ _ _ (by simp)), h.below.setCell (p := ⟨w0.heap.size + 2, 0, none⟩) (by simp) _⟩
theorem Box.fast {w0 w : World} {v : Value} {s a b : Nat} (h : Box w0 w v s a b) (x : Nat) : Box w0 (w.setCell ⟨w0.heap.size + 3, 0, none⟩ (.int .i64 (x : Int))) v s a x :=
  ⟨h.bt.keep (Below.heap_setCell _ _ _ _ (by simp)), h.bs.keep (Below.heap_setCell _ _ _ _ (by simp)), h.ba.keep (Below.heap_setCell _ _ _ _ (by simp)), one_setCell h.bb, h.below.setCell (p := ⟨w0.heap.size + 3, 0, none⟩) (by simp) _⟩
end Fx

set_option maxHeartbeats 400000 in
theorem mk_any (p q : Nat) (x : Int) (w : World) (hp : w.cell? ⟨p, 0, none⟩ = some (.int .i64 x)) :
    Calls Try.prog 21 #[.pointer (some ⟨p, 0, none⟩), .pointer (some ⟨q, 0, none⟩)] w fun e w' => e = .returned (.func (.func 22) #[] #[.pointer (some ⟨q, 0, none⟩), .pointer (some ⟨w.heap.size, 0, none⟩)]) ∧ w' = w.alloc (.cells #[.int .i64 x] 3) := by
  have hmf : ∀ fn first cap w, (Instr.makeFunc fn first cap).run Try.prog w = .ok (.func fn first cap) w := fun _ _ _ _ => rfl
  go_enter Try.func21, Try.ntmps21
  go_wp2
  go_ret
  exact ⟨rfl, rfl⟩

set_option maxHeartbeats 400000 in
theorem step_any (next : List Int) (x y : Nat) (A : Option Addr) (c p q bb off : Nat) (w : World) (hA : A = some ⟨bb, off, none⟩) (hp : w.cell? ⟨p, 0, none⟩ = some (.slice A next.length c)) (hq : Fx.one w q (.int .i64 (x : Int)) 3)
    (hx : x < next.length) (hc : w.cell? ⟨bb, off + x, none⟩ = some (.int .i64 (y : Int))) :
    Calls Try.prog 22 #[.pointer (some ⟨p, 0, none⟩), .pointer (some ⟨q, 0, none⟩)] w fun e w' => e = .returned (.int .i64 (y : Int)) ∧ w' = w.setCell ⟨q, 0, none⟩ (.int .i64 (y : Int)) := by
  subst hA
  have c1 := cell_of_one hq
  have f1 := free_of_one hq
  have c2 := cell_of_one (one_setCell hq (u := .int .i64 (y : Int)))
  have h0 : (0 : Int) ≤ (x : Int) := by omega
  have h1 : (x : Int) < (next.length : Int) := by omega
  go_enter Try.func22, Try.ntmps22
  go_wp2
  go_ret
  exact ⟨rfl, rfl⟩

theorem slow_any (next : List Int) (hin : ∀ x ∈ next, 0 ≤ x ∧ x < next.length) (A : Option Addr) (c s a b bb off : Nat) (w0 w : World) (hA : A = some ⟨bb, off, none⟩) (hbb : bb < w0.heap.size) (hbox : Fx.Box w0 w (.slice A next.length c) s a b) (ha : a < next.length)
    (hc : ∀ j (h : j < next.length), w0.cell? ⟨bb, off + j, none⟩ = some (.int .i64 next[j])) :
    Calls Try.prog 22 #[.pointer (some ⟨w0.heap.size, 0, none⟩), .pointer (some ⟨w0.heap.size + 2, 0, none⟩)] w fun e w' => e = .returned (.int .i64 (Fx.nx next a : Nat)) ∧ Fx.Box w0 w' (.slice A next.length c) s (Fx.nx next a) b := by
  have h1 := (hbox.below.cell (p := ⟨bb, off + a, none⟩) hbb).trans (hc a ha)
  rw [(Fx.nx_at hin ha).2] at h1
  exact (step_any next a (Fx.nx next a) A c _ _ bb off w hA (cell_of_one hbox.bt) hbox.ba ha h1).mono fun e w' ⟨h2, h3⟩ => ⟨h2, h3 ▸ hbox.slow _⟩
theorem fast_any (next : List Int) (hin : ∀ x ∈ next, 0 ≤ x ∧ x < next.length) (A : Option Addr) (c s a b bb off : Nat) (w0 w : World) (hA : A = some ⟨bb, off, none⟩) (hbb : bb < w0.heap.size) (hbox : Fx.Box w0 w (.slice A next.length c) s a b) (ha : b < next.length)
    (hc : ∀ j (h : j < next.length), w0.cell? ⟨bb, off + j, none⟩ = some (.int .i64 next[j])) :
    Calls Try.prog 22 #[.pointer (some ⟨w0.heap.size, 0, none⟩), .pointer (some ⟨w0.heap.size + 3, 0, none⟩)] w fun e w' => e = .returned (.int .i64 (Fx.nx next b : Nat)) ∧ Fx.Box w0 w' (.slice A next.length c) s a (Fx.nx next b) := by
  have h1 := (hbox.below.cell (p := ⟨bb, off + b, none⟩) hbb).trans (hc b ha)
  rw [(Fx.nx_at hin ha).2] at h1
  exact (step_any next b (Fx.nx next b) A c _ _ bb off w hA (cell_of_one hbox.bt) hbox.bb ha h1).mono fun e w' ⟨h2, h3⟩ => ⟨h2, h3 ▸ hbox.fast _⟩

set_option maxHeartbeats 1000000 in
theorem cycle_bad (next : List Int) (s : Int) (v : Value) (w : World) (hr : Ints w w.heap.size v next) (hm : Fx.mayF next s = false) :
    Calls Try.prog 10 #[v, .int .i64 s] w fun e w' => e = .returned (.tuple #[.int .i64 0, .int .i64 0, .int .i64 1]) ∧ Below w.heap.size w w' := by
  have hr2 := (hr.alloc (Nat.le_refl _) (.cells #[v] 22)).alloc (by simp) (.cells #[.int .i64 s] 3)
  obtain ⟨A, c, rfl, l1, m1, hA⟩ := hr.shape
  have hnew := heap_alloc_new w (.cells #[.slice A next.length c] 22)
  have hc0 : ((w.alloc (.cells #[.slice A next.length c] 22)).alloc (.cells #[.int .i64 s] 3)).cell? ⟨w.heap.size, 0, none⟩ = some (.slice A next.length c) := by
    rw [World.cell?_alloc_past _ _ _ (by simp)]
    exact cell_of_one hnew
  clear hA
  go_enter Try.func10, Try.ntmps10
  go_wp2_with (go_at_call 18; refine (may_any next s _ _ _ hr2).mono ?_; rintro e w' ⟨rfl, rfl⟩)
  refine bodyPost_ret (v := .tuple #[.int .i64 0, .int .i64 0, .int .i64 1]) (by simp [results, Try.f10, go_sem]) rfl ?_
  exact ⟨rfl, ((Below.refl _ _).alloc (Nat.le_refl _) _).alloc (by simp) _⟩

set_option maxHeartbeats 2000000 in
theorem cycle_any (next : List Int) (s m r : Nat) (v : Value) (w : World) (hr : Ints w w.heap.size v next) (hl : next.length < 1000000) (hm : Fx.mayF next s = true) (hcy : Fx.Cyc (Fx.nx next) s m r) (hmr : m + r ≤ next.length) :
    Calls Try.prog 10 #[v, .int .i64 s] w fun e w' => e = .returned (.tuple #[.int .i64 (m : Int), .int .i64 (r : Int), .int .i64 0]) ∧ Below w.heap.size w w' := by
  have hr2 := (hr.alloc (Nat.le_refl _) (.cells #[v] 22)).alloc (by simp) (.cells #[.int .i64 (s : Int)] 3)
  obtain ⟨A, c, rfl, l1, m1, hA⟩ := hr.shape
  obtain ⟨hin, _, hs⟩ := Fx.mayF_inv hm
  have hs : s < next.length := by omega
  obtain ⟨bb, off, rfl, hbb, hcs⟩ := hA (by rintro rfl; simp at hs)
  have HS := Lib.hid (And.intro hin (And.intro hs (And.intro hcs (And.intro hcy hmr))))
  have hnew := heap_alloc_new w (.cells #[.slice (some ⟨bb, off, none⟩) next.length c] 22)
  have hnew2 := heap_alloc_new (w.alloc (.cells #[.slice (some ⟨bb, off, none⟩) next.length c] 22)) (.cells #[.int .i64 (s : Int)] 3)
  have hc0 : ((w.alloc (.cells #[.slice (some ⟨bb, off, none⟩) next.length c] 22)).alloc (.cells #[.int .i64 (s : Int)] 3)).cell? ⟨w.heap.size, 0, none⟩ = some (.slice (some ⟨bb, off, none⟩) next.length c) := by
    rw [World.cell?_alloc_past _ _ _ (by simp)]
    exact cell_of_one hnew
  have hc1 : ((w.alloc (.cells #[.slice (some ⟨bb, off, none⟩) next.length c] 22)).alloc (.cells #[.int .i64 (s : Int)] 3)).cell? ⟨w.heap.size + 1, 0, none⟩ = some (.int .i64 (s : Int)) := by
    have := cell_of_one hnew2
    rwa [World.size_alloc] at this
  have hc2 : (((w.alloc (.cells #[.slice (some ⟨bb, off, none⟩) next.length c] 22)).alloc (.cells #[.int .i64 (s : Int)] 3)).alloc (.cells #[.int .i64 (s : Int)] 3)).cell? ⟨w.heap.size + 1, 0, none⟩ = some (.int .i64 (s : Int)) := by
    rw [World.cell?_alloc_past _ _ _ (by simp)]
    exact hc1
  have hmf : ∀ fn first cap w, (Instr.makeFunc fn first cap).run Try.prog w = .ok (.func fn first cap) w := fun _ _ _ _ => rfl
  clear hA hin hs hcs hcy hr hnew hnew2
  go_enter Try.func10, Try.ntmps10
  go_wp2_with (go_at_call 18; refine (may_any next s _ _ _ hr2).mono ?_; rintro e w' ⟨rfl, rfl⟩)
  refine (mk_any _ _ _ _ hc1).mono ?_
  rintro e w1 ⟨rfl, rfl⟩
  go_wp2_with fail
  refine (mk_any _ _ _ _ hc2).mono ?_
  rintro e w2 ⟨rfl, rfl⟩
  simp only [World.size_alloc]
  have hbox : Fx.Box w ((((w.alloc (.cells #[.slice (some ⟨bb, off, none⟩) next.length c] 22)).alloc (.cells #[.int .i64 (s : Int)] 3)).alloc (.cells #[.int .i64 (s : Int)] 3)).alloc (.cells #[.int .i64 (s : Int)] 3)) (.slice (some ⟨bb, off, none⟩) next.length c) s s s := by
    generalize hw1 : w.alloc (.cells #[.slice (some ⟨bb, off, none⟩) next.length c] 22) = w1
    have s1 : w1.heap.size = w.heap.size + 1 := by rw [← hw1]; simp
    have e1 : Fx.one w1 w.heap.size (.slice (some ⟨bb, off, none⟩) next.length c) 22 := by rw [← hw1]; exact heap_alloc_new w _
    have g1 : Below w.heap.size w w1 := by rw [← hw1]; exact (Below.refl _ _).alloc (Nat.le_refl _) _
    generalize hw2 : w1.alloc (.cells #[.int .i64 (s : Int)] 3) = w2
    have s2 : w2.heap.size = w.heap.size + 2 := by rw [← hw2]; simp [s1]
    have e2 : Fx.one w2 (w.heap.size + 1) (.int .i64 (s : Int)) 3 := by rw [← hw2, ← s1]; exact heap_alloc_new w1 _
    have g2 : Below w1.heap.size w1 w2 := by rw [← hw2]; exact (Below.refl _ _).alloc (Nat.le_refl _) _
    generalize hw3 : w2.alloc (.cells #[.int .i64 (s : Int)] 3) = w3
    have s3 : w3.heap.size = w.heap.size + 3 := by rw [← hw3]; simp [s2]
    have e3 : Fx.one w3 (w.heap.size + 2) (.int .i64 (s : Int)) 3 := by rw [← hw3, ← s2]; exact heap_alloc_new w2 _
    have g3 : Below w2.heap.size w2 w3 := by rw [← hw3]; exact (Below.refl _ _).alloc (Nat.le_refl _) _
    generalize hw4 : w3.alloc (.cells #[.int .i64 (s : Int)] 3) = w4
    have e4 : Fx.one w4 (w.heap.size + 3) (.int .i64 (s : Int)) 3 := by rw [← hw4, ← s3]; exact heap_alloc_new w3 _
    have g4 : Below w3.heap.size w3 w4 := by rw [← hw4]; exact (Below.refl _ _).alloc (Nat.le_refl _) _
    exact ⟨((e1.keep (g2.block _ (by omega))).keep (g3.block _ (by omega))).keep (g4.block _ (by omega)), (e2.keep (g3.block _ (by omega))).keep (g4.block _ (by omega)), e3.keep (g4.block _ (by omega)), e4,
      ((g1.trans (g2.mono (by omega))).trans (g3.mono (by omega))).trans (g4.mono (by omega))⟩
  generalize (((w.alloc (.cells #[.slice (some ⟨bb, off, none⟩) next.length c] 22)).alloc (.cells #[.int .i64 (s : Int)] 3)).alloc (.cells #[.int .i64 (s : Int)] 3)).alloc (.cells #[.int .i64 (s : Int)] 3) = W at hbox ⊢
  clear hc0 hc1 hc2 hr2
  obtain ⟨hin, hs, hcs, hcy, hmr⟩ := HS.out
  have hs1 := Fx.orb_lt hin hs 1
  have hx2 := (Fx.nx_at hin hs1).2
  have hcx : w.cell? ⟨bb, off + Fx.orb (Fx.nx next) s 1, none⟩ = some (.int .i64 ((Fx.orb (Fx.nx next) s 2 : Nat) : Int)) := by rw [hcs _ hs1, hx2]; rfl
  have O1 : Fx.nx next s = Fx.orb (Fx.nx next) s 1 := rfl
  have hsl := Lib.hid (fun (x y : Nat) (wx : World) (hb : Fx.Box w wx (.slice (some ⟨bb, off, none⟩) next.length c) s x y) (hx : x < next.length) => slow_any next hin _ c s x y bb off w wx rfl hbb hb hx hcs)
  have hfa := Lib.hid (fun (x y : Nat) (wx : World) (hb : Fx.Box w wx (.slice (some ⟨bb, off, none⟩) next.length c) s x y) (hy : y < next.length) => fast_any next hin _ c s x y bb off w wx rfl hbb hb hy hcs)
  clear hin hcs hcy hx2
  have HO := Lib.hid O1
  clear O1
  generalize ho1 : Fx.orb (Fx.nx next) s 1 = o1 at *
  generalize ho2 : Fx.orb (Fx.nx next) s 2 = o2 at *
  have hi1 : (o1 : Int) < (next.length : Int) := by omega
  have hi0 : (0 : Int) ≤ (o1 : Int) := by omega
  have hbx := cell_of_one hbox.bt
  have hrow := (hbox.below.cell (p := ⟨bb, off + o1, none⟩) hbb).trans hcx
  have hboxd := hbox.drewN 1
  go_wp2_with fail
  go_region_held3 (fun wx => wx.cell? ⟨w.heap.size, 0, none⟩ = some (.slice (some ⟨bb, off, none⟩) next.length c) ∧ wx.cell? ⟨bb, off + o1, none⟩ = some (.int .i64 (o2 : Int))) (go_keep) (first
    | (have hx := hbox3; go_at_call 22; clear hx; refine (hfa.out _ _ _ hbox3 hs).mono ?_; rw [HO.out]; rintro e w4 ⟨rfl, hbox4⟩; have ha4 := cell_of_one hbox4.bt; have hb4 := (hbox4.below.cell (p := ⟨bb, off + o1, none⟩) hbb).trans hcx; dsimp only)
    | (go_at_call 22; refine (hsl.out _ _ _ hboxd hs).mono ?_; rw [HO.out]; rintro e w3 ⟨rfl, hbox3⟩; have ha3 := cell_of_one hbox3.bt; have hb3 := (hbox3.below.cell (p := ⟨bb, off + o1, none⟩) hbb).trans hcx; dsimp only))
  rename_i hH
  clear hH
  have HO2 : Hid (Fx.nx next o1 = o2) := by show _ = _; rw [← ho1, ← ho2]; rfl
  clear hcx hbx hrow hboxd hbox ha3 hb3 hbox3 ha4 hb4
  go_wp2_with fail
  refine (hfa.out _ _ _ hbox4 hs1).mono ?_
  rw [HO2.out]
  rintro e w5 ⟨rfl, hbox5⟩
  rw [← ho1, ← ho2] at hbox5 ⊢
  obtain ⟨K, hK1, hKe, hKm⟩ : ∃ K, 1 ≤ K ∧ Fx.orb (Fx.nx next) s K = Fx.orb (Fx.nx next) s (K + K) ∧ K ≤ m + r := by
    obtain ⟨_, _, _, hcy, _⟩ := HS.out
    have hp := hcy.pos
    refine ⟨r * (m / r + 1), Nat.mul_pos hp (Nat.succ_pos _), (hcy.eq_iff _ _ (Nat.mul_pos hp (Nat.succ_pos _))).2 ⟨?_, Nat.dvd_mul_right _ _⟩, ?_⟩
    · have := Nat.div_add_mod m r
      have h2 := Nat.mod_lt m hp
      rw [Nat.mul_add]
      omega
    · have := Nat.div_mul_le_self m r
      rw [Nat.mul_add, Nat.mul_comm r (m / r)]
      omega
  have HKe := Lib.hid hKe
  have hlts := Lib.hid (fun k => Fx.orb_lt (s := s) (HS.out.1) hs k)
  have hnx1 : Hid (∀ k, Fx.nx next (Fx.orb (Fx.nx next) s k) = Fx.orb (Fx.nx next) s (k + 1)) := fun k => rfl
  clear hKe HO HO2 hbox4 ho1 ho2 hi0 hi1 hs1 o1 o2
  go_wp2_with fail
  go_loopg [10, 11] (K - 1) (fun g a b wx => ∃ k, 1 ≤ k ∧ k + g = K ∧ a = .int .i64 ((Fx.orb (Fx.nx next) s k : Nat) : Int) ∧ b = .int .i64 ((Fx.orb (Fx.nx next) s (k + k) : Nat) : Int) ∧ Fx.Box w wx (.slice (some ⟨bb, off, none⟩) next.length c) s (Fx.orb (Fx.nx next) s k) (Fx.orb (Fx.nx next) s (k + k)))
  case atStart => exact ⟨1, Nat.le_refl _, by omega, rfl, rfl, hbox5⟩
  case round =>
    obtain ⟨k, hk1, hkg, rfl, rfl, hbx⟩ := hrel
    have l1 := hlts.out k
    have l2 := hlts.out (k + k)
    have l3 := hlts.out (k + k + 1)
    have N1 := Lib.hid (hnx1.out k)
    have N2 := Lib.hid (hnx1.out (k + k))
    have N3 := Lib.hid (hnx1.out (k + k + 1))
    by_cases he : Fx.orb (Fx.nx next) s k = Fx.orb (Fx.nx next) s (k + k)
    · have hee : (((Fx.orb (Fx.nx next) s k : Nat) : Int) != ((Fx.orb (Fx.nx next) s (k + k) : Nat) : Int)) = false := by simp [he]
      have hmk := (HS.out.2.2.2.1.eq_iff k k (by omega)).1 he
      have hbs := cell_of_one hbx.bs
      have hbt := cell_of_one hbx.bt
      have hiff := Lib.hid (fun i => HS.out.2.2.2.1.eq_iff i (k + k) (by omega))
      have hdv : Hid (r ∣ k + k) := Nat.dvd_add hmk.2 hmk.2
      have hrow : Hid (∀ j, wr.cell? ⟨bb, off + Fx.orb (Fx.nx next) s j, none⟩ = some (.int .i64 ((Fx.orb (Fx.nx next) s (j + 1) : Nat) : Int))) := fun j => by
        have h1 := (hbx.below.cell (p := ⟨bb, off + Fx.orb (Fx.nx next) s j, none⟩) hbb).trans (HS.out.2.2.1 _ (hlts.out j))
        rw [(Fx.nx_at HS.out.1 (hlts.out j)).2] at h1
        exact h1
      have hbel := hbx.below
      clear he hmk hbx N1 N2 N3 l1 l2 l3
      have hz : Hid (Fx.orb (Fx.nx next) s (0 + (k + k)) = Fx.orb (Fx.nx next) s (k + k)) := by show _ = _; rw [Nat.zero_add]
      go_wp2_with fail
      go_quiet (fail)
      go_wp2_with fail
      go_loopg [11, 12, 13] m (fun g b fi ah wx => ∃ i n : Nat, i + g = m ∧ b = .int .i64 ((Fx.orb (Fx.nx next) s (i + (k + k)) : Nat) : Int) ∧ fi = .int .i64 (i : Int) ∧ ah = .int .i64 ((Fx.orb (Fx.nx next) s i : Nat) : Int) ∧ wx = wr.drewN n)
      case atStart => exact ⟨0, nq, by omega, by rw [hz.out], rfl, rfl, rfl⟩
      case round =>
        obtain ⟨i, n, hig, rfl, rfl, rfl, rfl⟩ := hrel
        have l1 := hlts.out i
        have l2 := hlts.out (i + (k + k))
        have i1 : ((Fx.orb (Fx.nx next) s i : Nat) : Int) < (next.length : Int) := by omega
        have i2 : ((Fx.orb (Fx.nx next) s (i + (k + k)) : Nat) : Int) < (next.length : Int) := by omega
        have i3 : (0 : Int) ≤ ((Fx.orb (Fx.nx next) s i : Nat) : Int) := by omega
        have i4 : (0 : Int) ≤ ((Fx.orb (Fx.nx next) s (i + (k + k)) : Nat) : Int) := by omega
        have r1 := hrow.out i
        have r2 := hrow.out (i + (k + k))
        by_cases he : Fx.orb (Fx.nx next) s i = Fx.orb (Fx.nx next) s (i + (k + k))
        · have hmi := ((hiff.out i).1 he).1
          obtain rfl : i = m := by omega
          have hee2 : (((Fx.orb (Fx.nx next) s i : Nat) : Int) != ((Fx.orb (Fx.nx next) s (i + (k + k)) : Nat) : Int)) = false := by simp [he]
          have hap := Lib.hid (fun j (hj : 0 < j) => HS.out.2.2.2.1.eq_iff i j hj)
          have hrp := HS.out.2.2.2.1.pos
          clear he hmi
          go_wp2_with fail
          go_loopg [14, 15] (r - 1) (fun g ro x wx => ∃ j : Nat, 1 ≤ j ∧ j + g = r ∧ ro = .int .i64 (j : Int) ∧ x = .int .i64 ((Fx.orb (Fx.nx next) s (i + j) : Nat) : Int) ∧ wx = wr.drewN n)
          case atStart => exact ⟨1, Nat.le_refl _, by omega, rfl, rfl, rfl⟩
          case round =>
            obtain ⟨j, hj1, hjg, rfl, rfl, rfl⟩ := hrel
            have l3 := hlts.out (i + j)
            have i5 : ((Fx.orb (Fx.nx next) s (i + j) : Nat) : Int) < (next.length : Int) := by omega
            have i6 : (0 : Int) ≤ ((Fx.orb (Fx.nx next) s (i + j) : Nat) : Int) := by omega
            have r3 := hrow.out (i + j)
            by_cases hx : Fx.orb (Fx.nx next) s i = Fx.orb (Fx.nx next) s (i + j)
            · have hrj := ((hap.out j (by omega)).1 hx).2
              have := Nat.le_of_dvd (by omega) hrj
              obtain rfl : j = r := by omega
              have hx2 : (((Fx.orb (Fx.nx next) s (i + j) : Nat) : Int) != ((Fx.orb (Fx.nx next) s i : Nat) : Int)) = false := by simp [hx]
              clear hx hrj this
              go_wp2_with fail
              refine bodyPost_ret (v := .tuple #[.int .i64 (i : Int), .int .i64 (j : Int), .int .i64 0]) (by simp [results, Try.f10, go_sem]) rfl ?_
              exact ⟨rfl, below_drewN hbel n⟩
            · have hx2 : (((Fx.orb (Fx.nx next) s (i + j) : Nat) : Int) != ((Fx.orb (Fx.nx next) s i : Nat) : Int)) = true := by simp; omega
              have hjr : j < r := by
                rcases Nat.lt_or_ge j r with h | h
                · exact h
                · obtain rfl : j = r := by omega
                  exact absurd ((hap.out j (by omega)).2 ⟨Nat.le_refl _, Nat.dvd_refl _⟩) hx
              clear hx
              go_wp2_with fail
              go_roundg (gk - 1)
              case measure => omega
              case rel => exact ⟨j + 1, by omega, by omega, by go_num, rfl, rfl⟩
        · have him : i < m := by
            rcases Nat.lt_or_ge i m with h | h
            · exact h
            · obtain rfl : i = m := by omega
              exact absurd ((hiff.out i).2 ⟨Nat.le_refl _, hdv.out⟩) he
          have hee2 : (((Fx.orb (Fx.nx next) s i : Nat) : Int) != ((Fx.orb (Fx.nx next) s (i + (k + k)) : Nat) : Int)) = true := by simp; omega
          have E1 : Hid (i + (k + k) + 1 = i + 1 + (k + k)) := by show _ = _; omega
          clear he
          go_wp2_with fail
          go_quiet (fail)
          go_wp2_with fail
          go_roundg (gk - 1)
          case measure => omega
          case rel => exact ⟨i + 1, n + nq, by omega, by rw [← E1.out], by go_num, rfl, by first | rfl | exact World.drewN_drewN _ _ _⟩
    · have hkK : k < K := by
        rcases Nat.lt_or_ge k K with h | h
        · exact h
        · obtain rfl : k = K := by omega
          exact absurd HKe.out he
      have hne : (((Fx.orb (Fx.nx next) s k : Nat) : Int) != ((Fx.orb (Fx.nx next) s (k + k) : Nat) : Int)) = true := by simp; omega
      have E1 : Hid (k + 1 + (k + 1) = k + k + 1 + 1) := by show _ = _; omega
      clear he
      generalize ha : Fx.orb (Fx.nx next) s k = a at *
      generalize hb : Fx.orb (Fx.nx next) s (k + k) = b at *
      generalize ha1 : Fx.orb (Fx.nx next) s (k + 1) = a1 at *
      generalize hb1 : Fx.orb (Fx.nx next) s (k + k + 1) = b1 at *
      generalize hb2 : Fx.orb (Fx.nx next) s (k + k + 1 + 1) = b2 at *
      go_wp2_with fail
      refine (hsl.out _ _ _ hbx l1).mono ?_
      rw [N1.out]
      rintro e w6 ⟨rfl, hb6⟩
      go_wp2_with fail
      refine (hfa.out _ _ _ hb6 l2).mono ?_
      rw [N2.out]
      rintro e w7 ⟨rfl, hb7⟩
      go_wp2_with fail
      refine (hfa.out _ _ _ hb7 l3).mono ?_
      rw [N3.out]
      rintro e w8 ⟨rfl, hb8⟩
      go_wp2_with fail
      go_roundg (gk - 1)
      case measure => omega
      case rel => exact ⟨k + 1, by omega, by omega, by rw [ha1], by rw [E1.out, hb2], by rw [E1.out, hb2, ha1]; exact hb8⟩
end Go.Proofs.Ytgckcffgkgfakaa
