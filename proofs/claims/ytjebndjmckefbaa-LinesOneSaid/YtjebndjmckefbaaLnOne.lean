/- The walk of stetlaw12.LinesOne, and the plain law that it wants. -/
import Derived.Test.YtjebndjmckefbaaRows
import Derived.Test.YtjebndjmckefbaaKit
import Derived.Test.YtjebndjmckefbaaLnFixed
namespace Go.Proofs.Ytjebndjmckefbaa
namespace Ln
theorem tks_rep (n a m : Nat) (hm : m ≤ n) : tks (List.replicate n a) m = m * a + m - 1 := by
  unfold tks
  rw [List.take_replicate, Nat.min_eq_left hm, List.sum_replicate_nat]
theorem rep_ne (n a : Nat) (hn : 1 ≤ n) : List.replicate n a ≠ [] := by
  intro h
  have := congrArg List.length h
  simp at this; omega
theorem rep_fits (width n a : Nat) (hn : 1 ≤ n) (h : n * a + n - 1 ≤ width) : linesF width (List.replicate n a) = [(n : Int)] ∧ (best width (List.replicate n a)).1 = 0 := by
  have hne := rep_ne n a hn
  have ht := best_top width _ hne
  have hf : feas width (List.replicate n a) n := ⟨hn, by simp, .inr (by rw [tks_rep n a n (Nat.le_refl _)]; exact h)⟩
  have hc : cand width (List.replicate n a) n = 0 := by
    unfold cand lc
    rw [if_pos (.inl (by simp)), List.drop_of_length_le (by simp)]; rfl
  have h0 := ht.le n (by simp) hf
  have h1 : (best width (List.replicate n a)).1 = 0 := by omega
  have h2 := ht.most n (by simp) hf (by omega)
  have h3 := ht.is.2.1
  simp only [List.length_replicate] at h3
  refine ⟨?_, h1⟩
  rw [linesF_cons width _ hne, show (best width (List.replicate n a)).2 = n from by omega, List.drop_of_length_le (by simp), linesF_nil]
theorem rep_wide (width a : Nat) (h : width < a) : ∀ n, (linesF width (List.replicate n a)).length = n ∧ (best width (List.replicate n a)).1 = 0 := by
  intro n
  induction n with
  | zero => exact ⟨rfl, rfl⟩
  | succ n ih =>
    have hne := rep_ne (n + 1) a (by omega)
    have ht := best_top width _ hne
    have h1 : (best width (List.replicate (n + 1) a)).2 = 1 := by
      have hf := ht.is
      rcases hf.2.2 with h2 | h2
      · exact h2
      · have h3 := hf.2.1
        have h4 := hf.1
        simp only [List.length_replicate] at h3
        rw [tks_rep _ _ _ h3] at h2
        have : a ≤ (best width (List.replicate (n + 1) a)).2 * a := Nat.le_mul_of_pos_left _ h4
        omega
    have hd : (List.replicate (n + 1) a).drop 1 = List.replicate n a := by simp
    refine ⟨?_, ?_⟩
    · rw [linesF_cons width _ hne, h1, hd, List.length_cons, ih.1]
    · rw [ht.eq, h1]
      unfold cand lc
      rw [hd, tks_rep _ _ _ (by omega), if_pos (.inr (by omega)), ih.2]
theorem rep_more (width n a : Nat) (hn : 1 ≤ n) (h : width < n * a + n - 1) (h2 : a ≤ width) : 1 < (linesF width (List.replicate n a)).length := by
  have hne := rep_ne n a hn
  have ht := best_top width _ hne
  have hf := ht.is
  have h3 := hf.2.1
  simp only [List.length_replicate] at h3
  have h4 : (best width (List.replicate n a)).2 ≠ n := by
    intro he
    rcases hf.2.2 with h5 | h5
    · rw [he] at h5; subst h5; omega
    · rw [he, tks_rep _ _ _ (Nat.le_refl _)] at h5; omega
  have h5 : (List.replicate n a).drop (best width (List.replicate n a)).2 ≠ [] := by
    intro h6
    have := List.drop_eq_nil_iff.1 h6
    simp at this; omega
  rw [linesF_cons width _ hne, List.length_cons]
  have : 0 < (linesF width ((List.replicate n a).drop (best width (List.replicate n a)).2)).length := List.length_pos_iff.2 (fun h6 => h5 ((lines_nil _ _).1 h6))
  omega
end Ln
open Go.RowKit

set_option maxRecDepth 100000 in
set_option maxHeartbeats 4000000 in
theorem one_any (n a b : Int) (w : World) (hn : 0 ≤ n ∧ n ≤ 255) (ha : 0 ≤ a ∧ a ≤ 65535) (hb : 0 ≤ b ∧ b ≤ 65535) :
    Calls Try.prog 6 #[.int .u8 n, .int .u16 a, .int .u16 b] w fun e w' => e = .returned (.bool true) ∧ Below w.heap.size w w' := by
  obtain ⟨i0, hi0, hz0, hz1, hz2⟩ := info_parts intInfo
  have hn1 := hn.1
  have hn2 := hn.2
  have ha1 := ha.1
  have ha2 := ha.2
  have hb1 := hb.1
  have hb2 := hb.2
  clear hn ha hb
  obtain ⟨N, hN⟩ : ∃ N : Nat, (N : Int) = 1 + n % 60 := ⟨(1 + n % 60).toNat, by omega⟩
  obtain ⟨D, hD⟩ : ∃ D : Nat, (D : Int) = a % 1001 := ⟨(a % 1001).toNat, by omega⟩
  obtain ⟨M, hM⟩ : ∃ M : Nat, (M : Int) = 1 + b % 1000 := ⟨(1 + b % 1000).toNat, by omega⟩
  have hN1 : 1 ≤ N := by omega
  have hN2 : N ≤ 60 := by omega
  have hD1 : D ≤ 1000 := by omega
  have hM1 : 1 ≤ M := by omega
  have hM2 : M ≤ 1000 := by omega
  have HN := Lib.hid hN
  have HD := Lib.hid hD
  have HM := Lib.hid hM
  have HMM : Hid ((min (max (M : Int) 1) 1000).toNat = M) := by show _ = _; omega
  clear hN hD hM
  go_enter Try.func6, Try.ntmps6
  go_upto_region 1 with fail
  go_cut [7, 8, 9] (fun x y z wx => x = .int .i64 N ∧ y = .int .i64 D ∧ z = .int .i64 M ∧ w = wx)
  case first =>
    go_wp2
    all_goals go_meet
    all_goals exact ⟨by rw [HN.out], by rw [HD.out], by rw [HM.out], rfl⟩
  case rest =>
    obtain ⟨rfl, rfl, rfl, rfl⟩ := hcut
    go_wp2
    go_loopw [10, 11] (fun o i wr => ∃ k : Nat, k ≤ N ∧ i = .int .i64 k ∧ wr.ownsRow w.heap.size 3 1 o k ((List.replicate k (D : Int)).map (.int .i64)) ∧ Below w.heap.size w wr) (fun _ i _ => N - (intOf i).toNat)
    case atStart => exact ⟨0, Nat.zero_le _, rfl, World.ownsRow_made _ #[] 0 (Nat.le_refl _) (by decide) rfl, (Below.refl _ _).alloc (Nat.le_refl _) _⟩
    case round =>
      obtain ⟨k, hk, rfl, hown, hbel⟩ := hrel
      by_cases hlt : k < N
      · go_wp2_with (at_builtin; refine wpList_app1 rfl (.tmp 33) (.tmp 35) 22 rfl w.heap.size 3 i0 (.int .i64 0) 8 Try.underlying22 hi0 hz0 hz1 hz2 rfl _ _ _ (.int .i64 D) rfl rfl rfl hown hbel.size (by simp only [maxLen]; omega) (by omega) ?_; intro v' w1 hown' hbel' _)
        go_roundw
        case rel => exact ⟨k + 1, by omega, by go_num, by simpa [List.replicate_succ'] using hown', hbel.trans hbel'⟩
        case measure => simp [intOf]; omega
      · obtain rfl : k = N := by omega
        have hr := Row.own hown
        clear hown
        have hmap : (List.replicate k (D : Int)).map Ln.clip = List.replicate k D := by
          rw [List.map_replicate]; congr 1; unfold Ln.clip; omega
        have hlen : (List.replicate k (D : Int)).length = k := by simp
        obtain ⟨ps, hps⟩ : ∃ ps, Ln.linesF M (List.replicate k D) = ps := ⟨_, rfl⟩
        obtain ⟨cc, hcc⟩ : ∃ cc, (Ln.best M (List.replicate k D)).1 = cc := ⟨_, rfl⟩
        have hcost := Ln.costF_lines M _ (List.replicate k D) (Nat.le_refl _)
        have hll := Ln.lines_len M _ (List.replicate k D) (Nat.le_refl _)
        rw [hps, hcc] at hcost
        rw [hps, List.length_replicate] at hll
        have HP : Hid (Ln.linesF (min (max (M : Int) 1) 1000).toNat ((List.replicate k (D : Int)).map Ln.clip) = ps) := by show _ = _; rw [HMM.out, hmap]; exact hps
        have HC : Hid (Ln.costF (min (max (M : Int) 1) 1000).toNat ((List.replicate k (D : Int)).map Ln.clip) ps = some cc) := by show _ = _; rw [HMM.out, hmap]; exact hcost
        have hA : k * D + k - 1 ≤ M → ps = [(k : Int)] ∧ cc = 0 := by
          rw [← hps, ← hcc]; exact Ln.rep_fits M k D hN1
        have hB : M < D → ps.length = k ∧ cc = 0 := by
          rw [← hps, ← hcc]; exact fun h => Ln.rep_wide M D h k
        have hC : M < k * D + k - 1 → D ≤ M → 1 < ps.length := by
          rw [← hps]; exact Ln.rep_more M k D hN1
        have hmul : k * D ≤ 60000 := Nat.le_trans (Nat.mul_le_mul hN2 hD1) (by decide)
        have t1 : (k : Int) * (D : Int) = ((k * D : Nat) : Int) := by push_cast; rfl
        have t2 : (k : Int) * (D : Int) ≤ 60000 := by rw [t1]; omega
        have t3 : (0 : Int) ≤ (k : Int) * (D : Int) := by rw [t1]; omega
        have HL := Lib.hid hlen
        clear hps hcc hcost hmap hlen
        have hkl : (List.replicate k (D : Int)).length ≤ 1000 := by rw [HL.out]; omega
        generalize List.replicate k (D : Int) = ws at *
        go_wp2_with fail
        refine (Break_ints ws M _ _ _ ps HP.out hr (Nat.le_refl _) hkl).mono ?_
        rintro e w1 ⟨ra, rfl, ha, b1⟩
        replace hr := hr.step b1
        have c1 := hbel.trans (b1.mono hbel.size)
        clear b1 hbel
        go_wp2_with fail
        refine (Cost_ok ws ps M _ _ _ _ _ cc HC.out hr ha hkl (by omega)).mono ?_
        rintro e w2 ⟨rfl, b2⟩
        replace ha := ha.step b2
        have c2 := c1.trans (b2.mono c1.size)
        have s2 := c2.size
        clear b2 c1 hr
        obtain ⟨Aa, ca, rfl, la, ma, hAa⟩ := ha.shape
        clear hAa
        by_cases h1 : k * D + k - 1 ≤ M
        · have hA' := hA h1
          have h1' : (k : Int) * (D : Int) + (k : Int) - 1 ≤ (M : Int) := by rw [t1]; omega
          obtain ⟨e1, e2⟩ := hA'
          subst e1 e2
          clear hA hB hC t1 h1
          go_wp2_with fail
          refine (rInts_below [(k : Int)] _ _ _ _ _ (ha.alloc (Nat.le_refl _) _) (row_lit _ _ _ _ (by simp [maxLen]))).mono ?_
          rintro e w3 ⟨rfl, b3⟩
          have c3 := below_lit c2 s2 _ b3 (by simp; omega)
          go_wp2_with fail
          refine (fixed_any _).mono ?_
          rintro e w6 ⟨rfl, b6⟩
          have c6 := c3.trans (b6.mono c3.size)
          go_wp2_with fail
          go_ret
          exact ⟨rfl, c6⟩
        · have h1' : (M : Int) < (k : Int) * (D : Int) + (k : Int) - 1 := by rw [t1]; omega
          by_cases h2 : M < D
          · obtain ⟨e1, e2⟩ := hB h2
            subst e2
            have t5 : ((ps.length : Int) == (k : Int)) = true := by rw [e1]; simp
            clear hA hB hC t1 h1 e1
            go_wp2_with fail
            refine (fixed_any _).mono ?_
            rintro e w6 ⟨rfl, b6⟩
            have c6 := c2.trans (b6.mono c2.size)
            go_wp2_with fail
            go_ret
            exact ⟨rfl, c6⟩
          · have h3 := hC (by omega) (by omega)
            clear hA hB hC t1 h1
            go_wp2_with fail
            refine (fixed_any _).mono ?_
            rintro e w6 ⟨rfl, b6⟩
            have c6 := c2.trans (b6.mono c2.size)
            go_wp2_with fail
            go_ret
            exact ⟨rfl, c6⟩
end Go.Proofs.Ytjebndjmckefbaa
