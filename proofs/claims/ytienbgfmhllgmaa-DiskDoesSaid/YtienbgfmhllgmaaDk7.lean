/- The walk of stetlaw04.fixed: it answers true. -/
import Derived.Test.YtienbgfmhllgmaaRows
import Derived.Test.YtienbgfmhllgmaaKit
import Derived.Test.YtienbgfmhllgmaaDk6
namespace Go.Proofs.Ytienbgfmhllgmaa
open Go.Maps Go.RowKit

set_option maxRecDepth 100000 in
set_option maxHeartbeats 4000000 in
theorem dfixed_any (w : World) : Calls Try.prog 15 #[] w fun e w' => e = .returned (.bool true) ∧ Below w.heap.size w w' := by
  go_enter Try.func15, Try.ntmps15
  go_wp2_with fail
  refine (new_in 2 (by decide) (Nat.le_refl _) (Below.refl _ _)).mono ?_
  rintro e w1 ⟨a, rfl, h1⟩
  replace h1 : Dk.In w.heap.size w w1 a ⟨none, 2, fun _ => none, 0, []⟩ := h1
  go_wp2_with fail
  refine (new_no 0 (by decide)).mono ?_
  rintro e w2 ⟨rfl, rfl⟩
  have h2 := h1
  clear h1
  go_wp2_with fail
  refine (write_in 0 0 ⟨#[97]⟩ h2 (by decide) (by decide) (by decide) rfl).mono ?_
  rintro e w3 ⟨rfl, h3⟩
  replace h3 : Dk.In w.heap.size w w3 a ⟨none, 2, fun _ => none, 0, [(0, ⟨#[97]⟩)]⟩ := h3
  clear h2
  go_wp2_with fail
  refine (sync_in 0 h3 (by decide) rfl).mono ?_
  rintro e w4 ⟨rfl, h4⟩
  replace h4 : Dk.In w.heap.size w w4 a ⟨none, 2, Dk.puts (fun _ => none) [(0, ⟨#[97]⟩)], 1, []⟩ := h4
  clear h3
  go_wp2_with fail
  refine (write_in 0 0 ⟨#[98]⟩ h4 (by decide) (by decide) (by decide) rfl).mono ?_
  rintro e w5 ⟨rfl, h5⟩
  replace h5 : Dk.In w.heap.size w w5 a ⟨none, 2, Dk.puts (fun _ => none) [(0, ⟨#[97]⟩)], 1, [(0, ⟨#[98]⟩)]⟩ := h5
  clear h4
  go_wp2_with fail
  refine (write_in 0 1 ⟨#[99]⟩ h5 (by decide) (by decide) (by decide) rfl).mono ?_
  rintro e w6 ⟨rfl, h6⟩
  replace h6 : Dk.In w.heap.size w w6 a ⟨none, 2, Dk.puts (fun _ => none) [(0, ⟨#[97]⟩)], 1, [(0, ⟨#[98]⟩), (1, ⟨#[99]⟩)]⟩ := h6
  clear h5
  go_wp2_with fail
  refine (write_in 1 2 ⟨#[120]⟩ h6 (by decide) (by decide) (by decide) rfl).mono ?_
  rintro e w7 ⟨rfl, h7⟩
  replace h7 : Dk.In w.heap.size w w7 a ⟨none, 2, Dk.puts (fun _ => none) [(0, ⟨#[97]⟩)], 1, [(0, ⟨#[98]⟩), (1, ⟨#[99]⟩)]⟩ := h7
  clear h6
  go_wp2_with fail
  refine (read_in (⟨#[98]⟩, 0) 0 h7 (by decide) (by decide) rfl).mono ?_
  rintro e w8 ⟨rfl, b8⟩
  replace b8 := h7.below b8
  have h8 := b8
  clear b8
  clear h7
  go_wp2_with fail
  refine (pending_in h8).mono ?_
  rintro e w9 ⟨rfl, rfl⟩
  have h9 := h8
  clear h8
  go_wp2_with fail
  refine (limit_in 0 (by decide) h9).mono ?_
  rintro e w10 ⟨rfl, h10⟩
  replace h10 : Dk.In w.heap.size w w10 a ⟨(some 0), 2, Dk.puts (fun _ => none) [(0, ⟨#[97]⟩)], 1, [(0, ⟨#[98]⟩), (1, ⟨#[99]⟩)]⟩ := h10
  clear h9
  go_wp2_with fail
  refine (write_in 8 1 ⟨#[100]⟩ h10 (by decide) (by decide) (by decide) rfl).mono ?_
  rintro e w11 ⟨rfl, h11⟩
  replace h11 : Dk.In w.heap.size w w11 a ⟨(some 0), 2, Dk.puts (fun _ => none) [(0, ⟨#[97]⟩)], 1, [(0, ⟨#[98]⟩), (1, ⟨#[99]⟩)]⟩ := h11
  clear h10
  go_wp2_with fail
  refine (sync_in 8 h11 (by decide) rfl).mono ?_
  rintro e w12 ⟨rfl, h12⟩
  replace h12 : Dk.In w.heap.size w w12 a ⟨(some 0), 2, Dk.puts (fun _ => none) [(0, ⟨#[97]⟩)], 1, [(0, ⟨#[98]⟩), (1, ⟨#[99]⟩)]⟩ := h12
  clear h11
  go_wp2_with fail
  refine (crash_lit [false, true] 4 h12 (by decide) (by decide)).mono ?_
  rintro e w13 ⟨rfl, h13⟩
  replace h13 : Dk.In w.heap.size w w13 a ⟨none, 2, Dk.puts (Dk.puts (fun _ => none) [(0, ⟨#[97]⟩)]) [(1, ⟨#[99]⟩)], 3, []⟩ := h13
  clear h12
  go_wp2_with fail
  refine (read_in (⟨#[97]⟩, 0) 0 h13 (by decide) (by decide) rfl).mono ?_
  rintro e w14 ⟨rfl, b14⟩
  replace b14 := h13.below b14
  have h14 := b14
  clear b14
  clear h13
  go_wp2_with fail
  refine (read_in (⟨#[99]⟩, 0) 1 h14 (by decide) (by decide) rfl).mono ?_
  rintro e w15 ⟨rfl, b15⟩
  replace b15 := h14.below b15
  have h15 := b15
  clear b15
  clear h14
  go_wp2_with fail
  refine (read_in (⟨#[]⟩, 1) (-1) h15 (by decide) (by decide) rfl).mono ?_
  rintro e w16 ⟨rfl, b16⟩
  replace b16 := h15.below b16
  have h16 := b16
  clear b16
  clear h15
  go_wp2_with fail
  refine (pending_in h16).mono ?_
  rintro e w17 ⟨rfl, rfl⟩
  have h17 := h16
  clear h16
  go_wp2_with fail
  refine (len_in h17).mono ?_
  rintro e w18 ⟨rfl, rfl⟩
  have h18 := h17
  clear h17
  go_wp2_with fail
  refine (write_in 0 1 ⟨#[101]⟩ h18 (by decide) (by decide) (by decide) rfl).mono ?_
  rintro e w19 ⟨rfl, h19⟩
  replace h19 : Dk.In w.heap.size w w19 a ⟨none, 2, Dk.puts (Dk.puts (fun _ => none) [(0, ⟨#[97]⟩)]) [(1, ⟨#[99]⟩)], 3, [(1, ⟨#[101]⟩)]⟩ := h19
  clear h18
  go_wp2_with fail
  go_ret
  exact ⟨rfl, h19.2.1⟩
end Go.Proofs.Ytienbgfmhllgmaa
