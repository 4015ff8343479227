/- The reference's Put. -/
import Derived.Test.YtkoegbjnhoecoaaGreatDoorH2
namespace Go.Proofs.YtkoegbjnhoecoaaGreatDoor
open Go.RowKit Go.Lib Go.Sort Tx

theorem ofNat_int (n : Nat) (h : n < 256) : ((UInt8.ofNat n).toNat : Int) = (n : Int) := by
  have : (UInt8.ofNat n).toNat = n := by simp; omega
  rw [this]
set_option maxHeartbeats 2000000 in
set_option maxRecDepth 20000 in
theorem digits_any : ∀ (n : Nat) (w : World), n ≤ 1000000000 →
    Calls Tryz.prog 59 #[.int .i64 n] w fun e w' => e = .returned (vs (Lib.decDigits n)) ∧ Below w.heap.size w w' := by
  intro n
  induction n using Nat.strongRecOn with
  | _ n ih =>
    intro w hn
    have hm : Int.tmod (n : Int) 10 = ((n % 10 : Nat) : Int) := by rw [Int.tmod_eq_emod_of_nonneg (by omega)]; omega
    have hdv : Int.tdiv (n : Int) 10 = ((n / 10 : Nat) : Int) := by rw [Int.tdiv_eq_ediv_of_nonneg (by omega)]; omega
    have hob := one_byte w _ rfl (48 + ((n % 10 : Nat) : Int)) (UInt8.ofNat (48 + n % 10)) (by rw [ofNat_int _ (by omega)]; omega)
    have hr1 : (n % 10 : Nat) < 10 := Nat.mod_lt _ (by omega)
    have hr2 : (n : Int) % 10 = ((n % 10 : Nat) : Int) := by omega
    have hr3 : (n : Int) / 10 = ((n / 10 : Nat) : Int) := by omega
    by_cases h : n < 10
    · have h' : (n : Int) < 10 := by omega
      have HD : Hid (Lib.decDigits n = [UInt8.ofNat (48 + n % 10)]) := Lib.hid (by rw [Lib.decDigits, dif_pos h, Nat.mod_eq_of_lt h])
      clear ih hdv hr3
      generalize UInt8.ofNat (48 + n % 10) = c at *
      generalize n % 10 = r at *
      go_enter Tryz.func59, Tryz.ntmps59
      go_wp2_with fail
      go_ret
      exact ⟨by rw [HD.out]; rfl, (Below.refl _ _).alloc (Nat.le_refl _) _⟩
    · have h' : (10 : Int) ≤ (n : Int) := by omega
      have HD : Hid (Lib.decDigits n = Lib.decDigits (n / 10) ++ [UInt8.ofNat (48 + n % 10)]) := Lib.hid (by rw [Lib.decDigits, dif_neg h])
      have HI := Lib.hid (ih (n / 10) (by omega))
      have hl := dig_len (n / 10) (by omega)
      have hle : n / 10 ≤ 1000000000 := by omega
      clear ih
      generalize UInt8.ofNat (48 + n % 10) = c at *
      generalize n % 10 = r at *
      generalize n / 10 = q at *
      have hl2 : (bs (Lib.decDigits q)).size ≤ 10 := by rw [bs_size]; exact hl
      have HW : Hid (bs (Lib.decDigits n) = bs (Lib.decDigits q) ++ bs [c]) := Lib.hid (by rw [HD.out, bs_append])
      have hl3 : (bs [c]).size = 1 := by rw [bs_size]; rfl
      go_enter Tryz.func59, Tryz.ntmps59
      go_wp2_with fail
      refine (HI.out _ hle).mono ?_
      rintro e w1 ⟨rfl, hb⟩
      go_wp2_with fail
      go_ret
      exact ⟨by show _ = Ending.returned (.string (bs (Lib.decDigits n))); rw [HW.out]; rfl, below_via ((Below.refl _ _).alloc (Nat.le_refl _) _) hb⟩

set_option maxHeartbeats 2000000 in
theorem rPut_any (s : Bs) (w : World) (hs : s.length ≤ 1000000000) :
    Calls Tryz.prog 51 #[vs s] w fun e w' => e = .returned (vs (Wr.put s)) ∧ Below w.heap.size w w' := by
  have hz := bs_size s
  have HC := Lib.hid (digits_any s.length w hs)
  have hd := dig_len s.length hs
  have HP : Hid (Wr.put s = Lib.decDigits s.length ++ 58 :: (s ++ [44])) := Lib.hid rfl
  generalize Lib.decDigits s.length = d at *
  have hdz : (bs d).size = d.length := bs_size d
  obtain ⟨T1, hT1⟩ : ∃ T, T = d ++ [58] := ⟨_, rfl⟩
  obtain ⟨T2, hT2⟩ : ∃ T, T = T1 ++ s := ⟨_, rfl⟩
  obtain ⟨T3, hT3⟩ : ∃ T, T = T2 ++ [44] := ⟨_, rfl⟩
  have o1 : bs d ++ (⟨#[58]⟩ : ByteArray) = bs T1 := by show bs d ++ bs [58] = _; rw [hT1, bs_append]
  have o2 : bs T1 ++ bs s = bs T2 := by rw [hT2, bs_append]
  have o3 : bs T2 ++ (⟨#[44]⟩ : ByteArray) = bs T3 := by show bs T2 ++ bs [44] = _; rw [hT3, bs_append]
  have l1 : (bs T1).size = d.length + 1 := by rw [bs_size, hT1]; simp
  have l2 : (bs T2).size = d.length + 1 + s.length := by rw [bs_size, hT2, hT1]; simp; omega
  have HE : Hid (T3 = Wr.put s) := Lib.hid (by rw [HP.out, hT3, hT2, hT1]; simp)
  clear hT1 hT2 hT3 HP
  go_enter Tryz.func51, Tryz.ntmps51
  go_wp2_with fail
  refine HC.out.mono ?_
  rintro e w1 ⟨rfl, hb⟩
  go_wp2_with fail
  go_ret
  exact ⟨by rw [HE.out]; rfl, hb⟩
end Go.Proofs.YtkoegbjnhoecoaaGreatDoor
