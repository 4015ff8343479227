/- The walk of stetlaw13.PagesFull, and the plain law that it wants. -/
import Derived.Test.YtodbpnigadgliaaRows
import Derived.Test.YtodbpnigadgliaaPgPl
import Derived.Test.YtodbpnigadgliaaKit
import Derived.Test.YtodbpnigadgliaaPgFixed
namespace Go.Proofs.Ytodbpnigadgliaa
open Go.RowKit

abbrev zs (n : Nat) : List Int := List.replicate n 0
theorem nb_zs (n : Nat) : nb (zs n) = 0 := by cases n <;> rfl
theorem tk_zs (h : Nat) : ∀ (n l : Nat), l ≤ h → tk h (zs n) l = (min n (h - l), l + min n (h - l)) := by
  intro n
  induction n with
  | zero => intro l hl; simp [zs, tk]
  | succ n ih =>
    intro l hl
    rw [zs, List.replicate_succ, tk, if_neg (by decide)]
    by_cases hlh : l = h
    · rw [if_pos hlh, show min (n + 1) (h - l) = 0 from by omega]; rfl
    · rw [if_neg hlh, ih (l + 1) (by omega), show min (n + 1) (h - l) = min n (h - (l + 1)) + 1 from by omega]
      simp; omega
theorem getD_zs (n j : Nat) : (zs n).getD j 0 = 0 := by
  simp only [List.getD, zs, List.getElem?_replicate]; split <;> rfl
theorem oneF_zs (h n : Nat) (hh : 1 ≤ h) : oneF (zs n) h = min n h := by
  have ht := tk_zs h n 0 (Nat.zero_le _)
  rw [oneF_at (f := 0) (m := min n h) (k := min n h) (nb_zs n) (by rw [List.drop_zero, ht]; simp)]
  by_cases hn : n ≤ h
  · rw [if_pos (.inr (.inl (by simp; omega)))]
  · have hk : kb (zs n) 0 (min n h) = min n h := kb_no _ _ _ (by rw [getD_zs]; omega)
    rw [hk]; simp only [getD_zs]
    split
    · rfl
    · split <;> omega
theorem pages_zs (h n : Nat) (hh : 1 ≤ h) (hn : 1 ≤ n) : pagesF (zs n) h = (min n h : Int) :: pagesF (zs (n - min n h)) h := by
  rw [pagesF_cons _ h hh (by simp [zs]; omega), oneF_zs h n hh]
  simp only [zs, List.drop_replicate]
  congr 1; omega
theorem pages_zs_len (h : Nat) (hh : 1 ≤ h) : ∀ (m n : Nat), n ≤ m → (pagesF (zs n) h).length = (n + h - 1) / h := by
  intro m
  induction m with
  | zero => intro n hn; obtain rfl : n = 0 := by omega
            simp only [Nat.zero_add]; rw [Nat.div_eq_of_lt (by omega)]; rfl
  | succ m ih =>
    intro n hn
    by_cases h0 : n = 0
    · subst h0; simp only [Nat.zero_add]; rw [Nat.div_eq_of_lt (by omega)]; rfl
    · rw [pages_zs h n hh (by omega), List.length_cons, ih _ (by omega)]
      by_cases hle : n ≤ h
      · rw [show n - min n h = 0 from by omega, Nat.zero_add, Nat.div_eq_of_lt (show h - 1 < h by omega)]
        rw [show n + h - 1 = (n - 1) + h from by omega, Nat.add_div_right _ hh, Nat.div_eq_of_lt (by omega)]
      · rw [show n + h - 1 = (n - min n h + h - 1) + h from by omega, Nat.add_div_right _ hh]
theorem ofF_zs (h : Nat) (hh : 1 ≤ h) : ∀ (m n : Nat), n ≤ m → ∀ (i : Nat) (p last : Int), ofF (pagesF (zs n) h) i p last = if i < n then p + (i / h : Nat) + 1 else last := by
  intro m
  induction m with
  | zero => intro n hn i p last; obtain rfl : n = 0 := by omega
            rfl
  | succ m ih =>
    intro n hn i p last
    by_cases h0 : n = 0
    · subst h0; rfl
    · rw [pages_zs h n hh (by omega), ofF]
      by_cases hi : i < min n h
      · rw [if_pos (by omega), if_pos (by omega), Nat.div_eq_of_lt (by omega)]; simp
      · rw [if_neg (by omega)]
        have := ih (n - min n h) (by omega) (i - min n h) (p + 1) last
        rw [show ((i : Int) - (min (n : Int) h)) = ((i - min n h : Nat) : Int) from by omega, this]
        by_cases hin : i < n
        · rw [if_pos (by omega), if_pos hin]
          have hh2 : min n h = h := by omega
          rw [hh2, show i / h = (i - h) / h + 1 from by rw [← Nat.add_div_right _ hh]; congr 1; omega]
          push_cast; omega
        · rw [if_neg (by omega), if_neg hin]

set_option maxHeartbeats 4000000 in
theorem full_any (n h : Int) (w : World) (hn : 0 ≤ n ∧ n ≤ 65535) (hh : 0 ≤ h ∧ h ≤ 255) :
    Calls Try.prog 5 #[.int .u16 n, .int .u8 h] w fun e w' => e = .returned (.bool true) ∧ Below w.heap.size w w' := by
  obtain ⟨i0, hi0, hz0, hz1, hz2⟩ := info_parts intInfo
  have hn1 := hn.1
  have hn2 := hn.2
  have hh1 := hh.1
  have hh2 := hh.2
  clear hn hh
  obtain ⟨N, hN⟩ : ∃ N : Nat, (N : Int) = n % 301 := ⟨(n % 301).toNat, by omega⟩
  obtain ⟨H, hH⟩ : ∃ H : Nat, (H : Int) = max 1 h := ⟨(max 1 h).toNat, by omega⟩
  have hN1 : N ≤ 300 := by omega
  have hH1 : 1 ≤ H := by omega
  have hH2 : H ≤ 255 := by omega
  have HP : Hid (pagesF (zs N) (min (max h 1) 1000).toNat = pagesF (zs N) H) := by show _ = _; congr 1; omega
  have HN := Lib.hid hN
  have HH := Lib.hid hH
  clear hN hH
  go_enter Try.func5, Try.ntmps5
  go_upto_region 1 with fail
  go_cut [5, 6] (fun a b wx => a = .int .i64 N ∧ b = .int .i64 H ∧ w = wx)
  case first =>
    go_wp2
    all_goals go_meet
    all_goals exact ⟨by rw [HN.out], by rw [HH.out]; congr 1; omega, rfl⟩
  case rest =>
    obtain ⟨rfl, rfl, rfl⟩ := hcut
    go_wp2
    go_loopw [7, 8] (fun o i wr => ∃ k : Nat, k ≤ N ∧ i = .int .i64 k ∧ wr.ownsRow w.heap.size 3 1 o k ((zs k).map (.int .i64)) ∧ Below w.heap.size w wr) (fun _ i _ => N - (intOf i).toNat)
    case atStart => exact ⟨0, Nat.zero_le _, rfl, World.ownsRow_made _ #[] 0 (Nat.le_refl _) (by decide) rfl, (Below.refl _ _).alloc (Nat.le_refl _) _⟩
    case round =>
      obtain ⟨k, hk, rfl, hown, hbel⟩ := hrel
      by_cases hlt : k < N
      · go_wp2_with (at_builtin; refine wpList_app1 rfl (.tmp 23) (.tmp 24) 22 rfl w.heap.size 3 i0 (.int .i64 0) 8 Try.underlying22 hi0 hz0 hz1 hz2 rfl _ _ _ (.int .i64 0) rfl rfl rfl hown hbel.size (by simp only [maxLen]; omega) (by omega) ?_; intro v' w1 hown' hbel' _)
        go_roundw
        case rel => exact ⟨k + 1, by omega, by go_num, by simpa [zs, List.replicate_succ'] using hown', hbel.trans hbel'⟩
        case measure => simp [intOf]; omega
      · obtain rfl : k = N := by omega
        have hr := Row.own hown
        clear hown
        have hplen : (pagesF (zs k) H).length = (k + H - 1) / H := pages_zs_len H hH1 _ _ (Nat.le_refl _)
        have hpall : ∀ x ∈ pagesF (zs k) H, 1 ≤ x ∧ x ≤ (zs k).length := pagesF_pos H hH1 _ _ (Nat.le_refl _)
        have hofs : ∀ (i : Nat) (p last : Int), ofF (pagesF (zs k) H) i p last = if i < k then p + (i / H : Nat) + 1 else last := ofF_zs H hH1 _ _ (Nat.le_refl _)
        have hple : (pagesF (zs k) H).length ≤ (zs k).length := pagesF_len H hH1 _ _ (Nat.le_refl _)
        have hzl : (zs k).length = k := by simp [zs]
        rw [hzl] at hple
        obtain ⟨ps, hps⟩ : ∃ ps, pagesF (zs k) H = ps := ⟨_, rfl⟩
        rw [hps] at hplen hpall hofs hple
        have HZ := Lib.hid hzl
        have HPS : Hid (pagesF (zs k) (min (max h 1) 1000).toNat = ps) := by show _ = _; rw [HP.out, hps]
        have H3 : Hid (∀ x ∈ ps, 0 ≤ x) := fun x hx => by have := hpall x hx; omega
        have HO := Lib.hid hofs
        have HL := Lib.hid hplen
        have t1 : ((ps.length : Int) != ((k : Int) + (H : Int) - 1) / (H : Int)) = false := by
          have e : (((k + H - 1) / H : Nat) : Int) = ((k : Int) + (H : Int) - 1) / (H : Int) := by rw [Int.natCast_ediv]; congr 1; omega
          rw [hplen, e]; simp
        clear hplen hpall hofs hps hzl HP
        go_wp2_with fail
        refine (pages_ints (zs k) h _ _ _ ps HPS.out hr (Nat.le_refl _) (by rw [HZ.out]; omega)).mono ?_
        rintro e w1 ⟨ra, rfl, ha, b1⟩
        have c1 := hbel.trans (b1.mono hbel.size)
        obtain ⟨Aa, ca, rfl, la, ma, hAa⟩ := ha.shape
        clear hAa hr hbel b1
        go_wp2_with fail
        go_loopw [10] (fun i wr => ∃ j : Nat, j ≤ k ∧ i = .int .i64 j ∧ ∃ n, wr = w1.drewN n) (fun i _ => k - (intOf i).toNat)
        case atStart => exact ⟨0, Nat.zero_le _, rfl, drewN_ex0 _⟩
        case round =>
          obtain ⟨j, hj, rfl, nd, rfl⟩ := hrel
          by_cases hlt : j < k
          · have HR : Hid (ofF ps (max (j : Int) 0) 0 (max 1 (ps.length : Int)) = (j : Int) / (H : Int) + 1) := by
              show _ = _
              rw [show max (j : Int) 0 = (j : Int) from by omega, HO.out, if_pos hlt]; push_cast; omega
            have hH0 : (1 : Int) ≤ (H : Int) := by omega
            have hq0 : (0 : Int) ≤ (j : Int) / (H : Int) := Int.ediv_nonneg (by omega) (by omega)
            have hq1 : (j : Int) / (H : Int) ≤ (j : Int) := Int.ediv_le_self _ (by omega)
            go_upto_region 13 with fail
            go_quiet ((go_at_call 11; first | exact quiet_eq (of_eq ps (j : Int) _ _ _ _ HR.out (ha.drewN _) H3.out (by omega) (by omega)) | exact quiet_eq2 (of_eq ps (j : Int) _ _ _ _ HR.out (ha.drewN _) H3.out (by omega) (by omega))))
            go_wp2_with fail
            go_roundw
            case rel => exact ⟨j + 1, by omega, by go_num, by first | exact drewN_ex1 _ _ | exact drewN_ex2 _ _ _⟩
            case measure => simp [intOf]; omega
          · obtain rfl : j = k := by omega
            have ha' := ha.drewN nd
            have c2 := c1.trans ((below_of_drewN (B := w1.heap.size) (a := w1) nd).mono c1.size)
            obtain ⟨w2, hw2⟩ : ∃ w2, w2 = w1.drewN nd := ⟨_, rfl⟩
            rw [← hw2] at ha' c2
            rw [← hw2]
            have hs2 : w2.heap.size = w1.heap.size := by rw [hw2]; simp
            rw [← hs2] at ha'
            clear hw2 c1 ha hs2
            by_cases h0 : j = 0
            · subst h0
              go_wp2_with fail
              refine (fixed_any _).mono ?_
              rintro e w6 ⟨rfl, b6⟩
              have c6 := c2.trans (b6.mono c2.size)
              go_wp2_with fail
              go_ret
              exact ⟨rfl, c6⟩
            · have t2 : ((j : Int) == 0) = false := by simp; omega
              have hl1 : 1 ≤ ps.length := by
                rw [HL.out]; exact (Nat.le_div_iff_mul_le (by omega)).2 (by omega)
              have HR : Hid (ofF ps (max (j : Int) 0) 0 (max 1 (ps.length : Int)) = (ps.length : Int)) := by
                show _ = _
                rw [show max (j : Int) 0 = (j : Int) from by omega, HO.out, if_neg (by omega)]; omega
              go_wp2_with fail
              refine (of_below ps (j : Int) _ _ _ _ HR.out ha' H3.out (by omega) (by omega)).mono ?_
              rintro e w4 ⟨rfl, b4⟩
              have c4 := c2.trans (b4.mono c2.size)
              go_wp2_with fail
              refine (fixed_any _).mono ?_
              rintro e w6 ⟨rfl, b6⟩
              have c6 := c4.trans (b6.mono c4.size)
              go_wp2_with fail
              go_ret
              exact ⟨rfl, c6⟩
end Go.Proofs.Ytodbpnigadgliaa
