/- stetlaw05's fixed. -/
import Derived.Test.YtkoegbjnhoecoaaGreatDoorStA
namespace Go.Proofs.YtkoegbjnhoecoaaGreatDoor
open Go.RowKit Tx

theorem put_one (x : Wr.Bs) (h : x.length < 10) : Wr.put x = UInt8.ofNat (48 + x.length) :: 58 :: (x ++ [44]) := by
  unfold Wr.put
  rw [Lib.decDigits, dif_pos h]
  rfl
theorem put_two (x : Wr.Bs) (h0 : 10 ≤ x.length) (h : x.length < 100) : Wr.put x = UInt8.ofNat (48 + x.length / 10) :: UInt8.ofNat (48 + x.length % 10) :: 58 :: (x ++ [44]) := by
  unfold Wr.put
  rw [Lib.decDigits, dif_neg (by omega), Lib.decDigits, dif_pos (by omega)]
  rfl
def tx : Bs := [48, 49, 50, 51, 52, 53, 54, 55, 56, 57, 48, 49, 50, 51, 52, 53, 54, 55, 56, 57, 48, 49, 50, 51, 52, 53, 54, 55, 56, 57, 48, 49, 50, 51, 52, 53, 54, 55, 56, 57, 48, 49, 50, 51, 52, 53, 54, 55, 56, 57]
def ty : Bs := tx ++ tx.take 10
theorem one_len (t : Bs) (h0 : 10 ≤ t.length) (h : t.length < 100) : (Wr.files [([97], t)]).length = t.length + 8 := by
  have e : Wr.files [([97], t)] = Wr.put [97] ++ Wr.put t := by simp [Wr.files]
  rw [e, put_one [97] (by simp), put_two t h0 h]
  simp
theorem right_x : Wr.right [([97], tx)] = true := by decide
theorem right_y : Wr.right [([97], ty)] = true := by decide
theorem right_A : Wr.right [([65], [])] = false := by decide
theorem FOk_one (f : Wr.F) (h : f.1.length ≤ 4000 ∧ f.2.length ≤ 4000) : ∀ g ∈ [f], FOk g := by
  intro g hg
  simp only [List.mem_singleton] at hg
  subst hg
  exact ⟨by simp only [maxLen]; omega, by simp only [maxLen]; omega⟩
theorem parL_files {L : List Wr.F} (h : Wr.right L = true) : parL (Wr.files L) = L := by unfold parL; rw [Wr.parse_files L h]
set_option maxRecDepth 100000 in
set_option maxHeartbeats 8000000 in
theorem fixed_any (w : World) (hg0 : Gl w) : Calls Tryz.prog 11 #[] w fun e w' => e = .returned (.bool true) ∧ Below w.heap.size w w' := by
  have hg := gl_from hg0
  have hHG := Lib.hid hg
  have htx : (bs tx).size = 50 := by rw [bs_size]; rfl
  have o1 : bs tx ++ (bs tx).extract 0 10 = bs ty := by
    rw [show (bs tx).extract 0 10 = bs (tx.take 10) from by rw [bs_extract']; simp]
    rw [bs_append]; rfl
  have HT : Hid ((⟨#[48, 49, 50, 51, 52, 53, 54, 55, 56, 57, 48, 49, 50, 51, 52, 53, 54, 55, 56, 57, 48, 49, 50, 51, 52, 53, 54, 55, 56, 57, 48, 49, 50, 51, 52, 53, 54, 55, 56, 57, 48, 49, 50, 51, 52, 53, 54, 55, 56, 57]⟩ : ByteArray) = bs tx) := Lib.hid rfl
  clear hg0
  go_enter Tryz.func11, Tryz.ntmps11
  go_wp2_with fail
  refine (on_any 4 (by omega) (Nat.le_refl _) (Below.refl _ _) hHG.out).mono ?_
  rintro e w1 ⟨sb, bd, R, rfl, S1, b1, _⟩
  have HS1 := Lib.hid S1
  clear S1
  go_wp2_with fail
  refine (on_small 3 (by omega)).mono ?_
  rintro e w2 ⟨b3, F3, rfl, b2, hD3⟩
  have HS2 := Lib.hid (HS1.out.more b2 F3 (fun k hk => ⟨hD3.2 k hk, hD3.1.lt k hk⟩))
  have HD3 := Lib.hid hD3
  have HF3 : Hid (∀ k ∈ F3, w.heap.size ≤ k ∧ k ≠ sb) := Lib.hid (fun k hk => ⟨by have := hD3.2 k hk; have := b1.size; omega, by have := hD3.2 k hk; have := HS1.out.disk.2.2.1 sb HS1.out.mem; omega⟩)
  clear b1 b2 hD3
  go_wp2_with fail
  rw [HT.out, show (⟨#[97]⟩ : ByteArray) = bs [97] from rfl]
  have HS3 := Lib.hid (HS2.out.more ((Below.refl _ _).alloc (Nat.le_refl _) (.cells #[.string (bs [97]), .string (bs tx)] 29)) [w2.heap.size] (fun k hk => by simp only [List.mem_singleton] at hk; subst hk; simp))
  have hsb2 : sb < w2.heap.size := (HS2.out.disk.2.2.1 sb HS2.out.mem).1
  refine (commit_any 4 [] _ [([97], tx)] HS3.out (rowK_one ([97], tx) (F3 ++ R) sb hsb2) rfl (by omega) rfl (by simp [Dk.fresh]) (Sq.Good.fresh 4) (by simp) (by simp) right_x (by rw [one_len tx (by decide) (by decide)]; decide) (FOk_one _ (by decide)) hHG.out).mono ?_
  rintro e w4 ⟨hsame, ⟨rfl, d4, R4, S4, hsub, base4, hp4, hG4, hc4, _⟩ | ⟨_, d4, _, _, _, _, hx, _⟩⟩
  case inr => exact absurd rfl hx
  have hb4 := (show HBd 0 (0, 0) (0, 0) from ⟨by simp, by simp, by simp, by simp⟩).next (Wr.files [([97], tx)]) (by rw [one_len tx (by decide) (by decide)]; decide)
  have HF4 : Hid (Side w.heap.size w4 b3 (Dk.fresh 3) F3) := Lib.hid (Side.keep (w := w2) ⟨HD3.out.1, fun k hk => (HF3.out k hk).1⟩ (fun k hk => by
    rw [hsame k (by simp [hk]) (HF3.out k hk).2, Below.heap_alloc _ _ _ (HD3.out.1.lt k hk)]))
  have HFR : Hid (∀ k ∈ F3, k ∈ R4) := Lib.hid (fun k hk => hsub k (by simp [hk]))
  have HS4 := Lib.hid S4
  have hn4 : d4.n = ((4 : Nat) : Int) := base4.n
  have hl4 : d4.lim = none := base4.live rfl
  have hcl : d4.cnt ≤ 2 := by
    have e1 : Sq.cnt (Wr.files [([97], tx)]) = 1 := by unfold Sq.cnt; rw [one_len tx (by decide) (by decide)]; rfl
    rw [e1] at hc4
    exact hc4
  have HG4 := Lib.hid hG4
  have HBD := Lib.hid hb4
  generalize Sq.n0 (0, 0) (0, 0) (Wr.files [([97], tx)]) = g0 at *
  generalize Sq.n1 (0, 0) (0, 0) (Wr.files [([97], tx)]) = g1 at *
  clear S4 hsame hsub base4 hG4 hc4 hb4 hsb2
  go_wp2_with fail
  rw [show (⟨#[97]⟩ : ByteArray) = bs [97] from rfl]
  have hsb4 : sb < w4.heap.size := (HS4.out.disk.2.2.1 sb HS4.out.mem).1
  have ba4 := (Below.refl w4.heap.size w4).alloc (Nat.le_refl _) (.cells #[.string (bs [97]), .string (bs ty)] 29)
  refine (commit_full 4 _ [([97], ty)] (HS4.out.below ba4) (rowK_one (B := w.heap.size) ([97], ty) R4 sb hsb4).1 hn4 (by omega) right_y (by rw [one_len ty (by decide) (by decide)]; decide) (FOk_one _ (by decide)) hHG.out).mono ?_
  rintro e w5 ⟨rfl, b5⟩
  have HB5 := Lib.hid (ba4.trans (b5.mono ba4.size))
  have HS5 := Lib.hid (HS4.out.below HB5.out)
  clear ba4 b5 hsb4
  go_wp2_with fail
  rw [show (⟨#[65]⟩ : ByteArray) = bs [65] from rfl, show (⟨#[]⟩ : ByteArray) = bs [] from rfl]
  have hsb5 : sb < w5.heap.size := (HS5.out.disk.2.2.1 sb HS5.out.mem).1
  have ba5 := (Below.refl w5.heap.size w5).alloc (Nat.le_refl _) (.cells #[.string (bs [65]), .string (bs [])] 29)
  refine (commit_form _ [([65], [])] (rowK_one (B := w.heap.size) ([65], []) R4 sb hsb5).1 (FOk_one _ (by decide)) right_A).mono ?_
  rintro e w6 ⟨rfl, b6⟩
  have HB6 := Lib.hid (HB5.out.trans ((ba5.trans (b6.mono ba5.size)).mono HB5.out.size))
  have HS6 := Lib.hid (HS4.out.below HB6.out)
  have HF6 : Hid (Side w.heap.size w6 b3 (Dk.fresh 3) F3) := Lib.hid (Side.keep HF4.out (fun k hk => HB6.out.block k (HF4.out.1.lt k hk)))
  clear ba5 b6 hsb5
  go_wp2_with fail
  refine (open_small (HF6.out.inR HS6.out.disk.1 HS6.out.disk.2.1) (by simp [Dk.fresh])).mono ?_
  rintro e w7 ⟨rfl, rfl⟩
  go_wp2_with fail
  refine (limit_inR 0 (by decide) HS6.out.disk).mono ?_
  rintro e w8 ⟨rfl, D8, S8⟩
  have HS8 := Lib.hid (HS6.out.disk_to D8 S8)
  clear D8 S8
  go_wp2_with fail
  refine (commit_any 4 (Wr.files [([97], tx)]) _ [] HS8.out (rowK_nil _) hn4 (by omega) hp4 (by simp only; omega) HG4.out (by have := HBD.out.a0; have := HBD.out.b0; omega) (by have := HBD.out.a1; have := HBD.out.b1; omega) (by decide) (by simp [Wr.files]) (by simp) hHG.out).mono ?_
  rintro e w9 ⟨_, ⟨_, _, _, _, _, _, _, _, _, hx⟩ | ⟨rfl, d9, D9, base9, _, hc9, _, hG9, hp9⟩⟩
  case inl => simp [Dk.dead] at hx
  have hp9' : d9.pend = [] := hp9 (by simp [Dk.dead])
  have hc9' : d9.pend.length + d9.cnt < 1000000 := by
    have : Sq.cnt (Wr.files []) = 0 := by simp [Wr.files, Sq.cnt]
    rw [this] at hc9
    simp only at hc9
    omega
  have hn9 : d9.n = ((4 : Nat) : Int) := base9.n.trans hn4
  have HD9 := Lib.hid D9
  have HG9 := Lib.hid hG9
  clear hc9 base9 hG9 D9 hp9
  go_wp2_with fail
  refine (crash_inR _ [] HD9.out hc9' ⟨0, by simp, by decide, .inl ⟨rfl, none, rfl⟩⟩).mono ?_
  rintro e w10 ⟨rfl, D10, _⟩
  rw [crash_nil] at D10
  have HD10 := Lib.hid D10
  clear D10
  go_wp2_with fail
  refine (open_any 4 g0 g1 (Wr.files [([97], tx)]) HD10.out hn9 (by omega) rfl HG9.out (by have := HBD.out.a0; have := HBD.out.b0; omega) (by have := HBD.out.a1; have := HBD.out.b1; omega) (hHG.out _ HD10.out.2.1)).mono ?_
  rintro e w11 ⟨st, R11, rfl, S11, _, _, _⟩
  rw [parL_files right_x] at S11
  have HS11 := Lib.hid S11
  clear S11
  go_wp2_with fail
  refine (load_any HS11.out (by simp)).mono ?_
  rintro e w12 ⟨v12, rfl, O12, b12⟩
  have HO12 := Lib.hid O12
  have HB12 := Lib.hid (HS11.out.disk.2.1.trans (b12.mono HS11.out.disk.1))
  have hB12 : w.heap.size ≤ w12.heap.size := HB12.out.size
  obtain ⟨vA, vc, rfl, _⟩ := (O12.rowC ff_length).shape
  clear O12 b12
  go_wp2_with fail
  rw [show (⟨#[97]⟩ : ByteArray) = bs [97] from rfl]
  have ba12 := (Below.refl w12.heap.size w12).alloc (Nat.le_refl _) (.cells #[.string (bs [97]), .string (bs tx)] 29)
  refine (lsame_any (q := true) _ _ [([97], tx)] [([97], tx)] (by simp) _ ((HO12.out.below ba12).rowC ff_length) (by have := row_one ([97], tx) w12; simpa using this) (by simp) (by simp)).mono ?_
  rintro e w13 ⟨rfl, nq, h13⟩
  have HB13 := Lib.hid (show Below w.heap.size w w13 by rw [h13]; exact (HB12.out.trans (ba12.mono hB12)).trans ((below_of_drewN (a := w12.alloc (.cells #[.string (bs [97]), .string (bs tx)] 29)) (B := w.heap.size) nq)))
  clear h13 ba12
  have r4 : roomZ 4 = 64 := by decide
  have r7 : roomZ 7 = 128 := by decide
  have r3 : roomZ 3 = 0 := by decide
  go_wp2_with fail
  refine (room_any 4 w13).mono ?_
  rintro e w14 ⟨rfl, rfl⟩
  rw [r4]
  go_wp2_with fail
  refine (room_any 7 w13).mono ?_
  rintro e w14 ⟨rfl, rfl⟩
  rw [r7]
  go_wp2_with fail
  refine (room_any 3 w13).mono ?_
  rintro e w14 ⟨rfl, rfl⟩
  rw [r3]
  go_wp2_with fail
  go_ret
  exact ⟨rfl, HB13.out⟩
end Go.Proofs.YtkoegbjnhoecoaaGreatDoor
