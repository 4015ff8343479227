/- stetlaw11.rises, stetlaw11.R11digits. -/
import Derived.Test.YtjmmfihmamcopaaDoorNbY
import Derived.Test.YtjmmfihmamcopaaDoorNbQ3
import Derived.Test.YtjmmfihmamcopaaDoorOneB
import Derived.Test.YtjmmfihmamcopaaDoorNbK
namespace Go.Proofs.YtjmmfihmamcopaaDoor
open Go.RowKit Tx Nb

set_option maxRecDepth 100000 in
set_option maxHeartbeats 4000000 in
theorem rises_any {w : World} (v : Value) (l : List Int) (m : Int) (hr : RowC 1 inF w w.heap.size v l) (h : Ris l m) :
    Calls Tryd.prog 17 #[v, .int .i64 m] w fun e w' => e = .returned (.bool true) ∧ Below w.heap.size w w' := by
  obtain ⟨A, c, rfl, _, hmx, z1⟩ := hr.shape
  have HC := Lib.hid z1
  have HR := Lib.hid h
  clear z1 hr h
  go_enter Tryd.func17, Tryd.ntmps17
  go_wp2_with fail
  go_loopw [5, 6] (fun x i wr => ∃ (j : Nat) (y : Int), j ≤ l.length ∧ i = .int .i64 j ∧ x = .int .i64 y ∧ Hid (∀ z ∈ l.drop j, y ≤ z) ∧ ∃ n, wr = w.drewN n) (fun _ i _ => l.length - (RowKit.intOf i).toNat)
  case atStart => exact ⟨0, 0, Nat.zero_le _, rfl, rfl, fun z hz => (HR.out.2 z (by simpa using hz)).1, 0, rfl⟩
  case round =>
    obtain ⟨j, y, hj, rfl, rfl, HY, n, rfl⟩ := hrel
    by_cases hjt : j < l.length
    · have hi : (j : Int) < (l.length : Int) := by omega
      have hi0 : (0 : Int) ≤ (j : Int) := by omega
      obtain ⟨b, off, rfl, hbl, hc⟩ := HC.out (by intro e; rw [e] at hjt; simp at hjt)
      have x0 : w.cell? ⟨b, off + j, none⟩ = some (.int .i64 l[j]) := by simpa using hc j hjt 0 _ rfl
      have h1 : ¬ l[j] < y := by
        have := HY.out l[j] (by rw [List.drop_eq_getElem_cons hjt]; exact List.mem_cons_self)
        omega
      have h2 : ¬ m < l[j] := by
        have := (HR.out.2 l[j] (List.getElem_mem hjt)).2
        omega
      have HN : Hid (∀ z ∈ l.drop (j + 1), l[j] ≤ z) := by
        intro z hz
        have hp := HR.out.1
        rw [← List.take_append_drop j l] at hp
        rw [List.drop_eq_getElem_cons hjt] at hp
        have := (List.pairwise_append.1 hp).2.1
        exact (List.pairwise_cons.1 this).1 z hz
      generalize l[j] = x at *
      clear hc
      go_wp2
      go_roundw
      case rel => exact ⟨j + 1, x, by omega, by go_num, rfl, HN.out, by first | exact drewN_ex1 _ _ | exact drewN_ex2 _ _ _ | exact ⟨_, rfl⟩⟩
      case measure => simp [RowKit.intOf]; omega
    · obtain rfl : j = l.length := by omega
      go_wp2
      go_ret
      exact ⟨rfl, below_of_drewN _⟩
open Go.Sort Go.Lib in
theorem conv_at (w : World) (g : Nat) (z : Int) (c : UInt8) (hz : z = (c.toNat : Int)) (h : w.cell? ⟨g, 0, none⟩ = some (.int .u8 z)) : (convert 83 9 (.slice (some ⟨g, 0, none⟩) 1 1)).run Tryd.prog w = .ok (.string (bs [c])) w := by
  subst hz
  exact run_convert_bytes_back (P := Tryd.prog) _ 83 9 5 ⟨g, 0, none⟩ 1 [c] Tryd.underlying83 Tryd.underlying5 Tryd.underlying9 (fun j hj => by
    have : j = 0 := by simpa using hj
    subst this
    rw [Addr.add_lit]
    exact h)
theorem dig_nat (n : Nat) (h : n ≤ 999999) : dig (n : Int) = Lib.decDigits n := by
  unfold dig
  rw [show (min (max (n : Int) 0) 999999).toNat = n by omega]
set_option maxRecDepth 100000 in
set_option maxHeartbeats 4000000 in
theorem r11digits_any : ∀ (n : Nat), n ≤ 999999 → ∀ (w : World), Calls Tryd.prog 16 #[.int .i64 n] w fun e w' => e = .returned (vs (Lib.decDigits n)) ∧ Below w.heap.size w w' := by
  intro n
  induction n using Nat.strongRecOn with
  | ind n ih =>
    intro hn w
    go_enter Tryd.func16, Tryd.ntmps16
    go_wp2_with fail
    · obtain ⟨c, hc⟩ : ∃ c : UInt8, c = UInt8.ofNat (48 + n) := ⟨_, rfl⟩
      have hcv := one_byte w _ rfl (48 + (n : Int)) c (by rw [hc, UInt8.toNat_ofNat']; omega)
      have HCN := Lib.hid hc
      clear hc
      rw [hcv]
      go_wp2_with fail
      go_ret
      refine ⟨?_, (Below.refl _ _).alloc (Nat.le_refl _) _⟩
      rw [Lib.decDigits, dif_pos (by omega), ← HCN.out]
      rfl
    · have HI := Lib.hid (ih (n / 10) (by omega) (by omega))
      have hw1 : IntKind.i64.wrap ((n : Int) / 10) = ((n / 10 : Nat) : Int) := by rw [IntWalk.i64_in _ (by omega)]; omega
      obtain ⟨r, hr⟩ : ∃ r : Nat, r = n % 10 := ⟨_, rfl⟩
      have htm : ((n : Int)).tmod 10 = (r : Int) := by rw [Int.tmod_eq_emod_of_nonneg (by omega)]; omega
      have hrl : r < 10 := by omega
      have hw2 : IntKind.i64.wrap (48 + (r : Int)) = 48 + (r : Int) := IntWalk.i64_in _ (by omega)
      have hw3 : IntKind.u8.wrap (48 + (r : Int)) = 48 + (r : Int) := by rw [IntKind.wrap_u8]; omega
      obtain ⟨c, hc⟩ : ∃ c : UInt8, c = UInt8.ofNat (48 + n % 10) := ⟨_, rfl⟩
      have hcz : 48 + (r : Int) = (c.toNat : Int) := by rw [hc, UInt8.toNat_ofNat']; omega
      have hcv : ∀ W : World, (convert 83 9 (.slice (some ⟨W.heap.size, 0, none⟩) 1 1)).run Tryd.prog (W.alloc (.cells #[.int .u8 (48 + (r : Int))] 5)) = .ok (.string (bs [c])) (W.alloc (.cells #[.int .u8 (48 + (r : Int))] 5)) := fun W => one_byte W _ rfl _ _ hcz
      have hcv3 : ∀ W : World, (convert 83 9 (.slice (some ⟨W.heap.size, 0, none⟩) 1 1)).run Tryd.prog (W.alloc (.cells #[.int .u8 (48 + (r : Int))] 5)).drew = .ok (.string (bs [c])) (W.alloc (.cells #[.int .u8 (48 + (r : Int))] 5)).drew := fun W => conv_at _ _ _ c hcz (Lib.cell_of_heap (show ((W.alloc (.cells #[.int .u8 (48 + (r : Int))] 5)).drew).heap[W.heap.size]? = some _ from heap_alloc_new W _) 0)
      have hcv4 : ∀ W : World, (convert 83 9 (.slice (some ⟨W.heap.size, 0, none⟩) 1 1)).run Tryd.prog (W.drew.alloc (.cells #[.int .u8 (48 + (r : Int))] 5)) = .ok (.string (bs [c])) (W.drew.alloc (.cells #[.int .u8 (48 + (r : Int))] 5)) := fun W => conv_at _ _ _ c hcz (Lib.cell_of_heap (show (W.drew.alloc (.cells #[.int .u8 (48 + (r : Int))] 5)).heap[W.heap.size]? = some _ from heap_alloc_new W.drew _) 0)
      have HL := Lib.hid (show (Lib.decDigits n).length ≤ 6 by have := dig_len6 (n : Int); rw [dig_nat n hn] at this; exact this)
      have HD : Hid (Lib.decDigits n = Lib.decDigits (n / 10) ++ [c]) := by
        show _ = _
        rw [Lib.decDigits, dif_neg (by omega), hc]
      have o1 : bs (Lib.decDigits (n / 10)) ++ bs [c] = bs (Lib.decDigits n) := by rw [HD.out, bs_append]
      have o2 : ¬ 9223372036854775807 < (bs (Lib.decDigits (n / 10))).size + (bs [c]).size := by
        have h1 := HL.out
        rw [HD.out, List.length_append] at h1
        rw [bs_size, bs_size]
        omega
      have HCZ := Lib.hid hcz
      clear ih hc hcz hr
      have hS0 : (fun _ : World => True) w.drew := trivial
      refine wp_region_headS 9 (fun _ => True) (by kernel_rfl) (by kernel_rfl) ?_
      refine WS_take (i := 0) (v := ?va0) (by simp only [List.getElem?_toArray, List.getElem?_cons_zero]; rfl) (by decide) (by kernel_rfl) (by kernel_rfl) (by intro _ _ _ h; exact h) (Or.inl ⟨by rfl, ?hya0⟩) hS0 ?resta0
      case hya0 =>
        intro wx hx
        skip
        go_simp
        try with_reducible rfl
      try simp only [Act.put, List.setIfInBounds_toArray, List.set_cons_zero, List.set_cons_succ]
      refine WS_take (i := 1) (v := ?va1) (by simp only [List.getElem?_toArray, List.getElem?_cons_succ, List.getElem?_cons_zero]; rfl) (by decide) (by kernel_rfl) (by kernel_rfl) (by intro _ _ _ h; exact h) (Or.inl ⟨by rfl, ?hya1⟩) hS0 ?resta1
      case hya1 =>
        intro wx hx
        skip
        go_simp
        try with_reducible rfl
      try simp only [Act.put, List.setIfInBounds_toArray, List.set_cons_zero, List.set_cons_succ]
      refine WS_take (i := 3) (v := ?va3) (by simp only [List.getElem?_toArray, List.getElem?_cons_succ, List.getElem?_cons_zero]; rfl) (by decide) (by kernel_rfl) (by kernel_rfl) (by intro _ _ _ h; exact h) (Or.inl ⟨by rfl, ?hya3⟩) hS0 ?resta3
      case hya3 =>
        intro wx hx
        skip
        go_simp
        try with_reducible rfl
      try simp only [Act.put, List.setIfInBounds_toArray, List.set_cons_zero, List.set_cons_succ]
      refine WS_take (i := 4) (v := ?va4) (by simp only [List.getElem?_toArray, List.getElem?_cons_succ, List.getElem?_cons_zero]; rfl) (by decide) (by kernel_rfl) (by kernel_rfl) (by intro _ _ _ h; exact h) (Or.inl ⟨by rfl, ?hya4⟩) hS0 ?resta4
      case hya4 =>
        intro wx hx
        skip
        go_simp
        try with_reducible rfl
      try simp only [Act.put, List.setIfInBounds_toArray, List.set_cons_zero, List.set_cons_succ]
      refine WS_take (i := 5) (v := ?va5) (by simp only [List.getElem?_toArray, List.getElem?_cons_succ, List.getElem?_cons_zero]; rfl) (by decide) (by kernel_rfl) (by kernel_rfl) (by intro _ _ _ h; exact h) (Or.inl ⟨by rfl, ?hya5⟩) hS0 ?resta5
      case hya5 =>
        intro wx hx
        skip
        go_simp
        try with_reducible rfl
      try simp only [Act.put, List.setIfInBounds_toArray, List.set_cons_zero, List.set_cons_succ]
      refine WS_take (i := 6) (v := ?va6) (by simp only [List.getElem?_toArray, List.getElem?_cons_succ, List.getElem?_cons_zero]; rfl) (by decide) (by kernel_rfl) (by kernel_rfl) (by intro _ _ _ h; exact h) (Or.inl ⟨by rfl, ?hya6⟩) hS0 ?resta6
      case hya6 =>
        intro wx hx
        skip
        go_simp
        try with_reducible rfl
      try simp only [Act.put, List.setIfInBounds_toArray, List.set_cons_zero, List.set_cons_succ]
      refine WS_two (i := 2) (j := 7) (by simp only [List.getElem?_toArray, List.getElem?_cons_succ, List.getElem?_cons_zero]; rfl) (by simp only [List.getElem?_toArray, List.getElem?_cons_succ, List.getElem?_cons_zero]; rfl) (by decide) (by decide) (by kernel_rfl) (fun K hK => (if_pos (by kernel_rfl)).mpr ?_) (fun K hK => (if_pos (by kernel_rfl)).mpr ?_)
      · go_simp
        refine (HI.out _).mono ?_
        rintro e w6 ⟨rfl, hb6⟩
        dsimp only
        refine hK _ _ trivial ?_
        clear hK K
        try simp only [Act.put, List.setIfInBounds_toArray, List.set_cons_zero, List.set_cons_succ]
        refine WS_one (i := 7) (by simp only [List.getElem?_toArray, List.getElem?_cons_succ, List.getElem?_cons_zero]; rfl) (by decide) (by kernel_rfl) (fun K hK => (if_pos (by kernel_rfl)).mpr ?_)
        go_simp
        refine hK _ _ trivial ?_
        clear hK K
        try simp only [Act.put, List.setIfInBounds_toArray, List.set_cons_zero, List.set_cons_succ]
        refine WS_one (i := 8) (by simp only [List.getElem?_toArray, List.getElem?_cons_succ, List.getElem?_cons_zero]; rfl) (by decide) (by kernel_rfl) (fun K hK => (if_pos (by kernel_rfl)).mpr ?_)
        go_simp
        refine hK _ _ trivial ?_
        clear hK K
        try simp only [Act.put, List.setIfInBounds_toArray, List.set_cons_zero, List.set_cons_succ]
        refine WS_done (by kernel_rfl) ?_
        simp only [List.drop_succ_cons, List.drop_zero]
        go_wp2_with fail
        go_ret
        exact ⟨rfl, (((Below.refl w.heap.size w).drew).trans hb6).alloc hb6.size _⟩
      · go_simp
        refine hK _ _ trivial ?_
        clear hK K
        try simp only [Act.put, List.setIfInBounds_toArray, List.set_cons_zero, List.set_cons_succ]
        refine WS_two (i := 2) (j := 8) (by simp only [List.getElem?_toArray, List.getElem?_cons_succ, List.getElem?_cons_zero]; rfl) (by simp only [List.getElem?_toArray, List.getElem?_cons_succ, List.getElem?_cons_zero]; rfl) (by decide) (by decide) (by kernel_rfl) (fun K hK => (if_pos (by kernel_rfl)).mpr ?_) (fun K hK => (if_pos (by kernel_rfl)).mpr ?_)
        · go_simp
          refine (HI.out _).mono ?_
          rintro e w6 ⟨rfl, hb6⟩
          dsimp only
          refine hK _ _ trivial ?_
          clear hK K
          try simp only [Act.put, List.setIfInBounds_toArray, List.set_cons_zero, List.set_cons_succ]
          refine WS_one (i := 8) (by simp only [List.getElem?_toArray, List.getElem?_cons_succ, List.getElem?_cons_zero]; rfl) (by decide) (by kernel_rfl) (fun K hK => (if_pos (by kernel_rfl)).mpr ?_)
          go_simp
          rw [conv_at w6 w.heap.size _ c HCZ.out ((hb6.cell (p := ⟨w.heap.size, 0, none⟩) (by simp)).trans (Lib.cell_of_heap (show ((w.alloc (.cells #[.int .u8 (48 + (r : Int))] 5)).drew).heap[w.heap.size]? = some _ from heap_alloc_new w _) 0))]
          go_simp
          refine hK _ _ trivial ?_
          clear hK K
          try simp only [Act.put, List.setIfInBounds_toArray, List.set_cons_zero, List.set_cons_succ]
          refine WS_done (by kernel_rfl) ?_
          simp only [List.drop_succ_cons, List.drop_zero]
          go_wp2_with fail
          go_ret
          exact ⟨rfl, (((Below.refl w.heap.size w).alloc (Nat.le_refl _) _).drew).trans (hb6.mono (by simp))⟩
        · go_simp
          refine hK _ _ trivial ?_
          clear hK K
          try simp only [Act.put, List.setIfInBounds_toArray, List.set_cons_zero, List.set_cons_succ]
          refine WS_one (i := 2) (by simp only [List.getElem?_toArray, List.getElem?_cons_succ, List.getElem?_cons_zero]; rfl) (by decide) (by kernel_rfl) (fun K hK => (if_pos (by kernel_rfl)).mpr ?_)
          go_simp
          refine (HI.out _).mono ?_
          rintro e w6 ⟨rfl, hb6⟩
          dsimp only
          refine hK _ _ trivial ?_
          clear hK K
          try simp only [Act.put, List.setIfInBounds_toArray, List.set_cons_zero, List.set_cons_succ]
          refine WS_done (by kernel_rfl) ?_
          simp only [List.drop_succ_cons, List.drop_zero]
          go_wp2_with fail
          go_ret
          exact ⟨rfl, (((Below.refl w.heap.size w).alloc (Nat.le_refl _) _).drew).trans (hb6.mono (by simp))⟩
end Go.Proofs.YtjmmfihmamcopaaDoor
