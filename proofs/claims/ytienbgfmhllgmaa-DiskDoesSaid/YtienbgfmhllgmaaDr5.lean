/- The walk of Disk.Copy: maps.Clone, slices.Clone. -/
import Derived.Test.YtienbgfmhllgmaaRows
import Derived.Test.YtienbgfmhllgmaaKit
import Derived.Test.YtienbgfmhllgmaaMap
import Derived.Test.YtienbgfmhllgmaaDk2
import Derived.Test.YtienbgfmhllgmaaDk3
import Derived.Test.YtienbgfmhllgmaaDr2
import Derived.Shelf.SlMaps.Clone
import Derived.Lib.SliceRun
namespace Go.Proofs.Ytienbgfmhllgmaa
open Go.Maps Go.RowKit

theorem own_base {w : World} {base base' : Nat} {e : TypeId} {size : Nat} {v : Value} {n : Nat} {xs : List Value} (h : w.ownsRow base e size v n xs) (hb : base' ≤ base) : w.ownsRow base' e size v n xs := by
  refine ⟨h.1, ?_⟩
  rcases h.2 with h2 | ⟨g, cap, cur, rfl, hbg, rest⟩
  · exact .inl h2
  · exact .inr ⟨g, cap, cur, rfl, Nat.le_trans hb hbg, rest⟩
theorem own_form2 {w : World} {base : Nat} {e : TypeId} {size : Nat} {v : Value} {n : Nat} {xs : List Value} (h : w.ownsRow base e size v n xs) : ∃ A c, v = .slice A n c := by
  rcases h.2 with ⟨rfl, hn⟩ | ⟨g, cap, cur, rfl, _⟩
  · exact ⟨none, 0, by rw [hn]⟩
  · exact ⟨_, _, rfl⟩
theorem MapOf.obj {w : World} {k : TypeId} {b n : Nat} {g : Int → Option Value} (h : MapOf w k b n g) : ∃ es clock, w.heap[b]? = some (.map es clock) ∧ ∀ w' : World, ∀ b', w'.heap[b']? = some (.map es clock) → MapOf w' k b' n g := by
  obtain ⟨D, ⟨es, clock, h1, h2⟩, h3⟩ := h
  exact ⟨es, clock, h1, fun w' b' h' => ⟨D, ⟨es, clock, h', h2⟩, h3⟩⟩

set_option maxHeartbeats 1000000 in
theorem mClone_any (b : Nat) (es : Array MapEntry) (clock : Nat) (w : World) (hb : w.heap[b]? = some (.map es clock)) :
    Calls Try.prog 27 #[.map (some b)] w fun e w' => e = .returned (.map (some w.heap.size)) ∧ w' = w.alloc (.map es clock) := by
  have hq := fun w => run_eql_map_nil_sl (P := Try.prog) w 57 _ _ (some b) Try.underlying57
  go_enter Try.func27, Try.ntmps27
  go_wp2
  rw [run_callFunc_extern (fn := Try.f34) (by kernel_rfl) (by kernel_rfl) (by kernel_rfl) (by kernel_rfl) (e := Extern.MapsClone.clone) (by kernel_rfl), run_maps_clone_sl w 57 hb]
  simp only [Result.andThen]
  rw [Oper.upon_value]
  go_wp2
  rw [run_typeAssert_map_sl _ 57 _ _ _ _ Try.underlying57]
  simp only [Result.andThen]
  rw [Oper.upon_value]
  go_wp2
  go_ret
  exact ⟨rfl, rfl⟩

set_option maxHeartbeats 1000000 in
theorem sClone_any (pv : Value) (n : Nat) (xs : List Value) (w : World) (ho : w.ownsRow 0 65 2 pv n xs) (hn : n < 1000000) (h1 : ∀ u ∈ xs, u.oneCell' = true) :
    Calls Try.prog 28 #[pv] w fun e w' => ∃ pv', e = .returned pv' ∧ w'.ownsRow w.heap.size 65 2 pv' n xs ∧ Below w.heap.size w w' := by
  obtain ⟨i0, hi0, hz0, hz1, hz2⟩ := info_parts writeInfo
  have hq := fun w a n c => Lib.run_eql_slice_nil (P := Try.prog) w 60 _ a n c 0 0 Try.underlying60
  have hxl := ho.1
  rcases ho.2 with ⟨rfl, hn0⟩ | ⟨g, cap, cur, rfl, hbg, hg⟩
  · subst hn0
    obtain rfl : xs = [] := by simpa using hxl
    clear ho hxl h1
    go_enter Try.func28, Try.ntmps28
    go_wp2
    go_ret
    exact ⟨_, rfl, World.ownsRow_nil _ _ _ _, Below.refl _ _⟩
  · have hc := ho.cells (g := g) rfl
    have hm := World.ownsRow_made w #[] 0 (e := 65) (base := w.heap.size) (size := 2) (Nat.le_refl _) (by decide) rfl
    have hc2 : ∀ j u, xs[j]? = some u → (w.alloc (.cells #[] 65)).cell? ((⟨g, 0, none⟩ : Addr).add j) = some u := fun j u hj => by
      have := hc j u hj; rw [Addr.add_lit] at this ⊢; rw [World.cell?_alloc_past _ _ _ (by have := lt_of_block hg.1; simp; omega)]; exact this
    clear ho hg
    go_enter Try.func28, Try.ntmps28
    go_wp2_with (at_builtin; refine wpList_append_own _ rfl (.tmp 5) (.tmp 6) 60 rfl w.heap.size 65 i0 _ 2 24 Try.underlying60 hi0 hz0 hz1 hz2 rfl (by decide) _ 0 [] rfl hm ⟨g, 0, none⟩ n cap xs rfl hxl hc2 h1 (by simp only [maxLen]; omega) (by omega) (by simp) ?_; intro pv' w2 o2 g2 _)
    go_ret
    exact ⟨_, rfl, by simpa using o2, ((Below.refl w.heap.size w).alloc (Nat.le_refl _) (.cells #[] 65)).grown g2 (by simp) (fun k hk => (hm.lt k hk).1)⟩

theorem mClone_at (b : Nat) (es : Array MapEntry) (clock : Nat) (w : World) (hb : w.heap[b]? = some (.map es clock)) :
    Calls Try.prog 27 #[.map (some b)] w.drew fun e w' => e = .returned (.map (some w.heap.size)) ∧ Below w.heap.size w w' ∧ w'.heap[w.heap.size]? = some (.map es clock) := by
  refine (mClone_any b es clock w.drew hb).mono ?_
  rintro e w' ⟨rfl, rfl⟩
  exact ⟨rfl, ((Below.refl w.heap.size w).drew).alloc (Nat.le_refl _) _, heap_alloc_new w.drew _⟩

theorem Dk.flat_one (l : List Dk.Wr) : ∀ u ∈ Dk.flat l, u.oneCell' = true := by
  intro u hu
  obtain ⟨w, _, h⟩ := List.mem_flatMap.1 hu
  simp at h
  rcases h with rfl | rfl <;> rfl

set_option maxHeartbeats 2000000 in
theorem dCopy_any (bd : Nat) (s : Dk.St) (F : List Nat) (w : World) (hd : Dk.Of w bd s F) (hp : s.pend.length < 1000000) :
    Calls Try.prog 17 #[.pointer (some ⟨bd, 0, none⟩)] w fun e w' => ∃ bc G, e = .returned (.pointer (some ⟨bc, 0, none⟩)) ∧ Below w.heap.size w w' ∧ Dk.Of w' bc s G ∧ ∀ k ∈ G, w.heap.size ≤ k := by
  obtain ⟨l, bm, pv, h1, h2, h3, h4, h5, h6, hm, ho, rfl⟩ := hd
  obtain ⟨es, clock, hes, hmo⟩ := hm.obj
  have c0 : w.cell? ⟨bd, 0, none⟩ = some (.bool s.lim.isSome) := by rw [Dk.cell_of h1]; rfl
  have c1 : w.cell? ⟨bd, 1, none⟩ = some (.int .i64 l) := by rw [Dk.cell_of h1]; rfl
  have c2 : w.cell? ⟨bd, 2, none⟩ = some (.int .i64 s.n) := by rw [Dk.cell_of h1]; rfl
  have c3 : w.cell? ⟨bd, 3, none⟩ = some (.map (some bm)) := by rw [Dk.cell_of h1]; rfl
  have c4 : w.cell? ⟨bd, 4, none⟩ = some pv := by rw [Dk.cell_of h1]; rfl
  have hfo := Dk.flat_one s.pend
  have hlt := lt_of_block h1
  have HM := Lib.hid hmo
  have H2 := Lib.hid (And.intro h2 h3)
  have HO := Lib.hid ho
  have HES := Lib.hid hes
  clear h1 h2 h3 h4 h5 h6 hm hmo ho hes
  go_enter Try.func17, Try.ntmps17
  go_wp2_with fail
  go_region_held3 (fun wx => wx.cell? ⟨bd, 0, none⟩ = some (.bool s.lim.isSome) ∧ wx.cell? ⟨bd, 1, none⟩ = some (.int .i64 l) ∧ wx.cell? ⟨bd, 2, none⟩ = some (.int .i64 s.n) ∧ wx.cell? ⟨bd, 3, none⟩ = some (.map (some bm)) ∧ wx.cell? ⟨bd, 4, none⟩ = some pv) (go_keep) (first
    | (have x := k2; go_at_call 28; refine (sClone_any pv s.pend.length (Dk.flat s.pend) _ k2 hp hfo).mono ?_; rintro e w3 ⟨pv', rfl, o3, b3⟩; obtain ⟨A3, q3, rfl⟩ := own_form2 o3; have e0 := World.cell?_of_block (a := ⟨bd, 0, none⟩) (b3.block bd (Nat.lt_of_lt_of_le hlt b2.size)); have e1 := World.cell?_of_block (a := ⟨bd, 1, none⟩) (b3.block bd (Nat.lt_of_lt_of_le hlt b2.size)); have e2 := World.cell?_of_block (a := ⟨bd, 2, none⟩) (b3.block bd (Nat.lt_of_lt_of_le hlt b2.size)); have e3 := World.cell?_of_block (a := ⟨bd, 3, none⟩) (b3.block bd (Nat.lt_of_lt_of_le hlt b2.size)); have e4 := World.cell?_of_block (a := ⟨bd, 4, none⟩) (b3.block bd (Nat.lt_of_lt_of_le hlt b2.size)); dsimp only)
    | (go_at_call 27; refine (mClone_at bm es clock w HES.out).mono ?_; rintro e w2 ⟨rfl, b2, m2⟩; have k2 := own_below HO.out b2; have e0 := World.cell?_of_block (a := ⟨bd, 0, none⟩) (b2.block bd hlt); have e1 := World.cell?_of_block (a := ⟨bd, 1, none⟩) (b2.block bd hlt); have e2 := World.cell?_of_block (a := ⟨bd, 2, none⟩) (b2.block bd hlt); have e3 := World.cell?_of_block (a := ⟨bd, 3, none⟩) (b2.block bd hlt); have e4 := World.cell?_of_block (a := ⟨bd, 4, none⟩) (b2.block bd hlt); dsimp only))
  clear e0 e1 e2 e3 e4
  go_wp2_with fail
  go_ret
  have l2 := lt_of_block m2
  have m3 := (b3.block _ l2).trans m2
  have l3 := lt_of_block m3
  refine ⟨w3.heap.size, _, rfl, ((b2.trans (b3.mono b2.size)).alloc (by omega) _), ⟨l, w.heap.size, .slice A3 s.pend.length q3, heap_alloc_new _ _, H2.out.1, H2.out.2, by omega, fun e => ?_, fun e => ?_, HM.out _ _ ((Below.heap_alloc _ _ _ l3).trans m3), own_base (o3.alloc _) (Nat.zero_le _), rfl⟩, fun k hk => ?_⟩
  · have := (o3.lt _ e).2; omega
  · have := (o3.lt _ e).1; omega
  · simp only [List.mem_cons, Option.mem_toList] at hk
    rcases hk with rfl | rfl | hk
    · omega
    · omega
    · have := (o3.lt _ hk).1; omega
end Go.Proofs.Ytienbgfmhllgmaa
