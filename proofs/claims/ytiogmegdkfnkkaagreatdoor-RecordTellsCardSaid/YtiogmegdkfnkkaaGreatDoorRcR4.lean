/- The reference's Encode. -/
import Derived.Test.YtiogmegdkfnkkaaGreatDoorRcR3
import Derived.Test.YtiogmegdkfnkkaaGreatDoorQ9
namespace Go.Proofs.YtiogmegdkfnkkaaGreatDoor
open Go.RowKit Tx

theorem rright_b {q : Bool} (v : Value) (l : List Rc.Rec) (w : World) (hr : RowR w w.heap.size v l) (hn : l.length < 1000000) (hok : ∀ x ∈ l, RecOk x ∧ x.2.1.length < 1000000) (hq : Rc.rightR l = q) :
    Calls Tryz.prog 11 #[v] w fun e w' => e = .returned (.bool q) ∧ Below w.heap.size w w' := by
  subst hq
  exact rright_any v l w hr hn hok
set_option maxRecDepth 100000 in
set_option maxHeartbeats 8000000 in
theorem renc_any (v : Value) (l : List Rc.Rec) (w : World) (hr : RowR w w.heap.size v l) (hn : l.length < 1000000) (hok : ∀ x ∈ l, RecOk x ∧ x.2.1.length < 1000000) :
    Calls Tryz.prog 6 #[v] w fun e w' => e = .returned (encV l) ∧ Below w.heap.size w w' := by
  cases hq : Rc.rightR l with
  | false =>
    have hcon := rright_b v l w hr hn hok hq
    rw [encV_no hq]
    clear hr hok hq
    go_enter Tryz.func6, Tryz.ntmps6
    go_wp2_with (go_at_call 11; refine hcon.mono ?_; rintro e w' ⟨rfl, hb'⟩)
    go_ret2
    exact ⟨rfl, hb'⟩
  | true =>
    have hcon := rright_b v l w hr hn hok hq
    rw [encV_yes hq]
    obtain ⟨hmay, hl12⟩ := Rc.rightR_ok hq
    obtain ⟨A, cap, rfl, c1, c2, c3⟩ := hr.shape
    have HC := Lib.hid c3
    have HM := Lib.hid hmay
    have hpv := fun wx (_ : Below w.heap.size w wx) => rPut_any Rc.stet1 wx (by decide)
    have HPV := Lib.hid hpv
    clear c3 hr hok hq hpv hmay
    have hbyt0 : Rc.bytes (l.take 0) = Wr.put Rc.stet1 := by simp [Rc.bytes]
    go_enter Tryz.func6, Tryz.ntmps6
    go_wp2_with (first
      | (go_at_call 11; refine hcon.mono ?_; rintro e w1 ⟨rfl, hb1⟩)
      | (go_at_call 16; refine (HPV.out _ hb1).mono ?_; rintro e w2 ⟨rfl, hb2⟩))
    have hb12 := hb1.trans (hb2.mono hb1.size)
    clear hcon
    go_loopw [4, 5] (fun s i wr => ∃ k : Nat, k ≤ l.length ∧ i = .int .i64 k ∧ s = vs (Rc.bytes (l.take k)) ∧ Below w.heap.size w wr) (fun _ i _ => l.length - (RowKit.intOf i).toNat)
    case atStart => exact ⟨0, Nat.zero_le _, rfl, by rw [hbyt0], hb12⟩
    case round =>
      clear hb12 hb2 hb1 hbyt0
      obtain ⟨k, hk, rfl, rfl, hbel⟩ := hrel
      have hle := hbel.size
      by_cases hlt : k < l.length
      · obtain ⟨b, off, rfl, hbl, ⟨x0, r1, r2⟩, ⟨j1, j2, j3⟩, hrec⟩ := HC.out k hlt
        have HT := Lib.hid (bytes_take l k hlt)
        have hmx := HM.out _ (List.getElem_mem hlt)
        have hlen := bytes_len (l.take k) (fun x hx => HM.out x (List.mem_of_mem_take hx))
        have hlk : (l.take k).length ≤ 12 := by simp; omega
        generalize l[k] = x at *
        obtain ⟨B1, p1, B2, p2, hr3⟩ := hrec.rows
        injection hr3 with e1 e2
        injection e2 with e2 e3
        subst e1 e2 e3
        simp only at j1 j2 j3
        have k1 := (hbel.cell (p := ⟨b, off + k * 3, none⟩) hbl).trans j1
        have k2 := (hbel.cell (p := ⟨b, off + k * 3 + 1, none⟩) hbl).trans j2
        have k3 := (hbel.cell (p := ⟨b, off + k * 3 + 2, none⟩) hbl).trans j3
        clear j1 j2 j3
        have i0 : (0 : Int) ≤ (k : Int) := by omega
        have i1 : (k : Int) < (l.length : Int) := by omega
        have htx := rtext_any (x.1, .slice B1 x.2.1.length p1, .slice B2 x.2.2.length p2) x wr ((hrec.below hbel (Nat.le_refl _)).more hbel.size) hmx
        simp only at htx
        have h1 := (Rc.text_parts hmx).2.2.2
        have HPT := Lib.hid (fun wx (_ : Below w.heap.size w wx) => rPut_any (Rc.text x) wx (by omega))
        have h3 := Rc.put_lt (Rc.text x) (by omega)
        clear hrec hmx
        generalize Wr.put (Rc.text x) = pt at *
        generalize hacc : Rc.bytes (l.take k) = acc at *
        obtain ⟨T1, hT1⟩ : ∃ T, T = acc ++ pt := ⟨_, rfl⟩
        have o1 : bs acc ++ bs pt = bs T1 := by rw [hT1, bs_append]
        have u1 : (bs acc).size = acc.length := bs_size _
        have u2 : (bs pt).size = pt.length := bs_size _
        have v1 : ¬ (9223372036854775807 < (bs acc).size + (bs pt).size) := by omega
        have HTT : Hid (T1 = Rc.bytes (l.take (k + 1))) := Lib.hid (by rw [HT.out, hT1])
        clear hT1 hacc
        go_wp2_with (first
          | (go_at_call 17; refine htx.mono ?_; rintro e w3 ⟨rfl, hb3⟩; have hb4 := hbel.trans (hb3.mono hbel.size))
          | (go_at_call 16; refine (HPT.out _ hb4).mono ?_; rintro e w5 ⟨rfl, hb5⟩))
        go_roundw
        case rel => exact ⟨k + 1, by omega, by go_num, by rw [← HTT.out], hb4.trans (hb5.mono hb4.size)⟩
        case measure => simp [RowKit.intOf]; omega
      · obtain rfl : k = l.length := by omega
        have HT : Hid (l.take l.length = l) := Lib.hid List.take_length
        go_wp2_with fail
        go_ret2
        exact ⟨by rw [HT.out]; rfl, hbel⟩
end Go.Proofs.YtiogmegdkfnkkaaGreatDoor
