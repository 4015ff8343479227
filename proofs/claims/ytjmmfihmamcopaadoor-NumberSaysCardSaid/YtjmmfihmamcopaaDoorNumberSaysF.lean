/- stet/stetlaw11.NumberSays answers true for every input, and each argument reads afterwards as it read before; package-level variables start as the program's text lays them (the card ties them). -/
import Derived.Test.YtjmmfihmamcopaaDoorRows
import Derived.Test.YtjmmfihmamcopaaDoorTie
import Derived.Test.YtjmmfihmamcopaaDoorCards
import Derived.WalkKit
import Derived.ProofKit
import Derived.OpenShut
import Derived.ShutString
import Derived.ChangeOld
import Derived.Below
import Derived.WideKeyPair
import Derived.Lay
import Derived.Deep.DeepHandedRow
import Derived.SevenTiedAt
import Derived.Test.YtjmmfihmamcopaaDoorRowC
import Derived.Test.YtjmmfihmamcopaaDoorNbWG
import Derived.Test.YtjmmfihmamcopaaDoorRowC
import Derived.Test.YtjmmfihmamcopaaDoorNbL2
namespace Go.Proofs.YtjmmfihmamcopaaDoor.numberSays
open Go.ChangeShapes Go.WideShapes Go.ChangeAt Go.RowKit
open Go.ChangeMaps (open_string shut_string)
open Go.WideMaps (ArrKey open_pair shut_pair)
set_option linter.unusedVariables false

theorem own : ownKnob Tryd.prog.godebug = none := by kernel_rfl
theorem laidOut : laidOutB Tryd.prog = true := by kernel_rfl

theorem walk (w : World) (hg : Gl w) (a0 : ByteArray) (w0 : a0.size ≤ maxLen) (a1 : ByteArray) (w1 : a1.size ≤ maxLen) (a2 b2 : Int) (w2 : (Lit.int .u8 a2).wf = true) (x2 : (Lit.int .u8 b2).wf = true) :
    Calls Tryd.prog 6 #[.string a0, .string a1, .agg #[.int .u8 a2, .int .u8 b2]] w fun e w' => e = .returned (.bool true) ∧ Below w.heap.size w w' := by
  obtain ⟨k0, rfl⟩ : ∃ l : Tx.Bs, a0 = Tx.bs l := ⟨_, (Tx.bs_of a0).symm⟩
  obtain ⟨n0, rfl⟩ : ∃ l : Tx.Bs, a1 = Tx.bs l := ⟨_, (Tx.bs_of a1).symm⟩
  exact says_any k0 n0 a2 b2 (by rw [← Tx.bs_size k0]; exact w0) (by rw [← Tx.bs_size n0]; exact w1) (bounds_u8 w2) (bounds_u8 x2) hg

set_option maxRecDepth 100000 in
theorem lifted (os : Os) (started : os.Started) (H : Type) (enc : TypeId × Value → H) :
    ReturnsInHanded {} Tryd.checked os 6 .any ((OpenSpec.ofChange Rows.numberSaysSpec).preRow enc Tryd.prog Tryd.f6 Rows.numberSaysRow.domain false Rows.numberSaysRow.laid) (((OpenSpec.ofChange Rows.numberSaysSpec).at (fun _ _ _ => 0)).post enc Tryd.prog Tryd.f6 false true false false) := by
  refine returnsInHanded_of_row (C := Tryd.checked) (s := OpenSpec.ofChange Rows.numberSaysSpec) (F := fun _ _ _ => 0) own started (by kernel_rfl) Tryd.func6
    (ChangeSpec.witness_shaped (enc := enc) (C := Tryd.checked) (os := os) (X := fun w _ => laidMetH Tryd.prog Rows.numberSaysRow.laid w) false (laidW os) #[.string ⟨#[]⟩, .string ⟨#[]⟩, .agg #[.int .u8 0, .int .u8 0]] 8 (laidW_os _)
      (World.shaped_of_ZipB (by kernel_rfl) (by kernel_rfl)) (by kernel_rfl) (by kernel_rfl) (by kernel_rfl)
      (laidW_met os _ _ rfl)) ?_
  intro W base args ds gs before hval0 hW hcnd _ _ hL hsh _
  have hval : ∀ (j : Nat) t v, Tryd.f6.params[j]? = some t → args[j]? = some v → Value.okWide Tryd.prog W .any base t v := hval0
  have hW' := hW
  obtain ⟨p, q, hA0, hV, rfl, hfz, hnd⟩ := hW
  have hA : DataW.TrodAll enc Tryd.prog W 0 (fun _ => true) true Tryd.f6.params.toList args.toList ds p := hA0
  rw [Tryd.params6] at hA hval
  obtain ⟨v0, vs0, d0, ds0, p0, q0, hargs, rfl, rfl, h0, r0⟩ := trodAll_cons hA
  obtain ⟨v1, vs1, d1, ds1, p1, q1, rfl, rfl, rfl, h1, r1⟩ := trodAll_cons r0
  obtain ⟨v2, vs2, d2, ds2, p2, q2, rfl, rfl, rfl, h2, r2⟩ := trodAll_cons r1
  obtain ⟨rfl, rfl, rfl⟩ := trodAll_nil r2
  obtain rfl : args = #[v0, v1, v2] := by cases args; simp_all
  obtain ⟨rfl, rfl⟩ := trodVars_none hV
  obtain ⟨a0, rfl, rfl, rfl, w0⟩ := open_string Tryd.underlying9 (hval 0 9 v0 rfl rfl) h0
  obtain ⟨a1, rfl, rfl, rfl, w1⟩ := open_string Tryd.underlying9 (hval 1 9 v1 rfl rfl) h1
  have A2 : ArrKey Tryd.prog 59 5 2 := ⟨Tryd.underlying59, by kernel_rfl, by kernel_rfl, by kernel_rfl⟩
  obtain ⟨a2, b2, rfl, rfl, rfl, w2, x2⟩ := open_pair A2 Tryd.underlying5 (hval 2 59 v2 rfl rfl) h2
  clear hA0 hval0
  refine (walk W (gl_of_laid rfl hL hsh) a0 w0 a1 w1 a2 b2 w2 x2).mono fun e W' ⟨he, bel⟩ => ?_
  subst he
  exact ⟨_, rfl, _, _, _, [], _, [], hW', trodAll_mk1 (shut_bool Tryd.underlying4 _), (trodAll_cons_mk (shut_string Tryd.underlying9 w0) (trodAll_cons_mk (shut_string Tryd.underlying9 w1) (trodAll_cons_mk (shut_pair A2 Tryd.underlying5 w2 x2) trodAll_mk0))), rfl, bel.frame _, fun h => by cases h⟩

theorem over : Rows.numberSaysRow.holds Tryd.pinned (OpenSpec.ofChange Rows.numberSaysSpec) :=
  OpenClaim.holds_of_wide 6 Tryd.f6 rfl rfl rfl rfl rfl rfl rfl ⟨rfl, rfl, rfl, rfl, rfl⟩ rfl rfl rfl rfl rfl (by kernel_rfl) Tryd.func6 (by kernel_rfl)
    (of_decide_eq_true (by kernel_rfl)) (by unfold Func.isWrapper; first | (rw [if_pos (by decide +kernel)]; kernel_rfl) | (rw [if_neg (by decide +kernel)]; exact ⟨rfl, rfl⟩))
    (fun os started H enc _ => lifted os started H enc)

theorem numberSays_holds : Rows.NumberSaysCardSaid :=
  Claim7.holds_tied_plain_at .later [] [.data, .data, .data, .data, .data, .pinned, .pinned] true (true, "a01da9093912717969668ba9bdf91373681542159c2b161787715a8139f3ede1") false over (fun _ h => by cases h) (by kernel_rfl) (fun _ h => by cases h) numberSays_row_tie rfl ⟨rfl, rfl⟩ (by kernel_rfl) rfl
    (fun f fn hf hfn => by
      obtain rfl : f = 6 := Option.some.inj ((show Tryd.prog.funcNamed Rows.numberSaysRow.func = some 6 by kernel_rfl).symm.trans hf) |>.symm
      obtain rfl : fn = Tryd.f6 := (Option.some.inj (Tryd.func6.symm.trans hfn)).symm
      exact ⟨by kernel_rfl, fun j t ht => by
        rw [Tryd.params6] at ht
        have hm : t ∈ [9, 9, 59] := by simpa using Array.mem_of_getElem? ht
        have hall : ([9, 9, 59].all fun u => !Tryd.prog.wantsStandIn u) = true := by kernel_rfl
        exact (show Tryd.prog.wantsStandIn t = false by simpa using List.all_eq_true.1 hall t hm)⟩)
    (by kernel_rfl)
#print axioms numberSays_holds
end Go.Proofs.YtjmmfihmamcopaaDoor.numberSays
