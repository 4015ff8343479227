/-
  No cell of these rows narrows 'for every input' (looked for: loops, veiled, ifaces, maps, wideKeys, modest, calm, conditions, laid).
  DERIVED. THE GIVEN ROWS OF THIS SEAT. 5 by the template 'for every input the law returns true; each argument reads behind the call as it read before'; 0 by the template 'total and deterministic' (their statements: YtgckcffgkgfakaaTotals.lean).
  GIVEN WITH THE SEED: the statements are not yours to turn. If you find one false, say at which input.
  Laid BY PROGRAM, IN A SANDBOX (cutbox-rows.mjs): the forced cells as the released guide's own fill.sh prints them over the translation cf828fdb2f6d607b… (all of the seat's roots in one cut). By AI agents, Wed Nov 11 2026. No macro, syntax, notation, axiom, sorry.
-/
import Derived.Test.YtgckcffgkgfakaaChecked
import GoSem.Claim
import GoSem.ClaimJoined
import GoSem.ClaimMapViews
import Derived.JoinedTies
import Derived.KernelRfl
namespace Go.Proofs.Ytgckcffgkgfakaa
/- THE CELL 'sum', in the pinned program and in every row, IS THE sha256 OF THE DUMP (.gsa) THAT YtgckcffgkgfakaaProg.lean LOADS. Nothing in Lean hashes anything: it is a label: what it is worth is what the hold of that sum in a sandbox is worth. -/
noncomputable def Try.pinned : Pinned := { name := "ytgckcffgkgfakaa", sum := "cf828fdb2f6d607b583741ed7cb666385f319e2e453d221c57fe9408c43e29b0", checked := Try.checked }
namespace Rows
def none {H : Type} : Left H := { results := [], args := [] }

/-- 'stetlaw23.FixTells': WHATEVER THE INPUT: true; the input reads as it did. -/
def fixTellsSpec : ChangeSpec := { name := "fixTells", fn := fun _ => fun
  | [d1, d2, d3] => { results := [.lit (.bool true)], args := [d1, d2, d3] }
  | _ => none }
def fixTellsRow : OpenClaim := { program := "ytgckcffgkgfakaa", sum := "cf828fdb2f6d607b583741ed7cb666385f319e2e453d221c57fe9408c43e29b0", func := "stet/stetlaw23.FixTells", spec := "fixTells", unfollowed := true, recurses := true, apart := false }
def FixTellsSaid : Prop := fixTellsRow.holds Try.pinned (OpenSpec.ofChange fixTellsSpec)

/-- ITS FALSE NEIGHBOUR: 'it returns false'. Refute it at one input. -/
def fixTellsWrong : ChangeSpec := { name := "fixTells", fn := fun _ => fun
  | [d1, d2, d3] => { results := [.lit (.bool false)], args := [d1, d2, d3] }
  | _ => none }
def FixTellsWrongFalsely : Prop := fixTellsRow.holds Try.pinned (OpenSpec.ofChange fixTellsWrong)

/-- 'stetlaw23.FixBounds': WHATEVER THE INPUT: true; the input reads as it did. -/
def fixBoundsSpec : ChangeSpec := { name := "fixBounds", fn := fun _ => fun
  | [d1, d2, d3] => { results := [.lit (.bool true)], args := [d1, d2, d3] }
  | _ => none }
def fixBoundsRow : OpenClaim := { program := "ytgckcffgkgfakaa", sum := "cf828fdb2f6d607b583741ed7cb666385f319e2e453d221c57fe9408c43e29b0", func := "stet/stetlaw23.FixBounds", spec := "fixBounds", unfollowed := true, recurses := true, apart := false }
def FixBoundsSaid : Prop := fixBoundsRow.holds Try.pinned (OpenSpec.ofChange fixBoundsSpec)

/-- ITS FALSE NEIGHBOUR: 'it returns false'. Refute it at one input. -/
def fixBoundsWrong : ChangeSpec := { name := "fixBounds", fn := fun _ => fun
  | [d1, d2, d3] => { results := [.lit (.bool false)], args := [d1, d2, d3] }
  | _ => none }
def FixBoundsWrongFalsely : Prop := fixBoundsRow.holds Try.pinned (OpenSpec.ofChange fixBoundsWrong)

/-- 'stetlaw23.FixTrue': WHATEVER THE INPUT: true; the input reads as it did. -/
def fixTrueSpec : ChangeSpec := { name := "fixTrue", fn := fun _ => fun
  | [d1, d2] => { results := [.lit (.bool true)], args := [d1, d2] }
  | _ => none }
def fixTrueRow : OpenClaim := { program := "ytgckcffgkgfakaa", sum := "cf828fdb2f6d607b583741ed7cb666385f319e2e453d221c57fe9408c43e29b0", func := "stet/stetlaw23.FixTrue", spec := "fixTrue", unfollowed := true, recurses := true, apart := false }
def FixTrueSaid : Prop := fixTrueRow.holds Try.pinned (OpenSpec.ofChange fixTrueSpec)

/-- ITS FALSE NEIGHBOUR: 'it returns false'. Refute it at one input. -/
def fixTrueWrong : ChangeSpec := { name := "fixTrue", fn := fun _ => fun
  | [d1, d2] => { results := [.lit (.bool false)], args := [d1, d2] }
  | _ => none }
def FixTrueWrongFalsely : Prop := fixTrueRow.holds Try.pinned (OpenSpec.ofChange fixTrueWrong)

/-- 'stetlaw23.FixNames': WHATEVER THE INPUT: true; the input reads as it did. -/
def fixNamesSpec : ChangeSpec := { name := "fixNames", fn := fun _ => fun
  | [d1, d2, d3] => { results := [.lit (.bool true)], args := [d1, d2, d3] }
  | _ => none }
def fixNamesRow : OpenClaim := { program := "ytgckcffgkgfakaa", sum := "cf828fdb2f6d607b583741ed7cb666385f319e2e453d221c57fe9408c43e29b0", func := "stet/stetlaw23.FixNames", spec := "fixNames", unfollowed := true, recurses := true, apart := false }
def FixNamesSaid : Prop := fixNamesRow.holds Try.pinned (OpenSpec.ofChange fixNamesSpec)

/-- ITS FALSE NEIGHBOUR: 'it returns false'. Refute it at one input. -/
def fixNamesWrong : ChangeSpec := { name := "fixNames", fn := fun _ => fun
  | [d1, d2, d3] => { results := [.lit (.bool false)], args := [d1, d2, d3] }
  | _ => none }
def FixNamesWrongFalsely : Prop := fixNamesRow.holds Try.pinned (OpenSpec.ofChange fixNamesWrong)

/-- 'stetlaw23.FixAhead': WHATEVER THE INPUT: true; the input reads as it did. -/
def fixAheadSpec : ChangeSpec := { name := "fixAhead", fn := fun _ => fun
  | [d1, d2, d3] => { results := [.lit (.bool true)], args := [d1, d2, d3] }
  | _ => none }
def fixAheadRow : OpenClaim := { program := "ytgckcffgkgfakaa", sum := "cf828fdb2f6d607b583741ed7cb666385f319e2e453d221c57fe9408c43e29b0", func := "stet/stetlaw23.FixAhead", spec := "fixAhead", unfollowed := true, recurses := true, apart := false }
def FixAheadSaid : Prop := fixAheadRow.holds Try.pinned (OpenSpec.ofChange fixAheadSpec)

/-- ITS FALSE NEIGHBOUR: 'it returns false'. Refute it at one input. -/
def fixAheadWrong : ChangeSpec := { name := "fixAhead", fn := fun _ => fun
  | [d1, d2, d3] => { results := [.lit (.bool false)], args := [d1, d2, d3] }
  | _ => none }
def FixAheadWrongFalsely : Prop := fixAheadRow.holds Try.pinned (OpenSpec.ofChange fixAheadWrong)

/- THE SECOND FORM. 'bulk': how many values and letters a reading holds, each counted each time it is reached (what is shared counts as often as it is met; a slice's spare places count too). A statement '..UptoSaid' is the law's where the arguments, and the package variables that the reading takes, are together of bulk at most 1048576: NARROWER than '..Said'. Prove '..Said' where nothing that the law and all that it calls make is longer than what came in: it says more and counts as full. Else prove '..UptoSaid'. A law counts once. -/
mutual
def uptoBulk {H : Type} : DataW H → Nat
  | .lit (.string bytes) => bytes.length + 1
  | .lit _ => 1
  | .nil => 1
  | .ptr d => uptoBulk d + 1
  | .slice elems spare => uptoBulkAll elems + uptoBulkAll spare + 1
  | .agg parts => uptoBulkAll parts + 1
  | .iface _ d => uptoBulk d + 1
  | .map entries => uptoBulkEntries entries + 1
  | .held _ => 1
def uptoBulkAll {H : Type} : List (DataW H) → Nat
  | [] => 0
  | d :: r => uptoBulk d + uptoBulkAll r
def uptoBulkEntries {H : Type} : List (Lit × DataW H) → Nat
  | [] => 0
  | x :: r => uptoBulkEntry x + uptoBulkEntries r
def uptoBulkEntry {H : Type} : Lit × DataW H → Nat
  | (.string bytes, d) => bytes.length + uptoBulk d + 1
  | (_, d) => uptoBulk d + 1
 end
def uptoSmall : (H : Type) → List (DataW H) → Bool := fun _ ds => decide (uptoBulkAll ds ≤ 1048576)
def OpenSpec.upto (s : _root_.Go.ChangeSpec) : _root_.Go.OpenSpec := { _root_.Go.OpenSpec.ofChange s with cond := some uptoSmall }

/-- 'stetlaw23.FixTells', WHERE WHAT IT READS IS OF BULK AT MOST 1048576: true; the input reads as it did. -/
def fixTellsUptoRow : OpenClaim := { program := "ytgckcffgkgfakaa", sum := "cf828fdb2f6d607b583741ed7cb666385f319e2e453d221c57fe9408c43e29b0", func := "stet/stetlaw23.FixTells", spec := "fixTells", unfollowed := true, recurses := true, apart := false, narrowed := true }
def FixTellsUptoSaid : Prop := fixTellsUptoRow.holds Try.pinned (OpenSpec.upto fixTellsSpec)

/-- 'stetlaw23.FixBounds', WHERE WHAT IT READS IS OF BULK AT MOST 1048576: true; the input reads as it did. -/
def fixBoundsUptoRow : OpenClaim := { program := "ytgckcffgkgfakaa", sum := "cf828fdb2f6d607b583741ed7cb666385f319e2e453d221c57fe9408c43e29b0", func := "stet/stetlaw23.FixBounds", spec := "fixBounds", unfollowed := true, recurses := true, apart := false, narrowed := true }
def FixBoundsUptoSaid : Prop := fixBoundsUptoRow.holds Try.pinned (OpenSpec.upto fixBoundsSpec)

/-- 'stetlaw23.FixTrue', WHERE WHAT IT READS IS OF BULK AT MOST 1048576: true; the input reads as it did. -/
def fixTrueUptoRow : OpenClaim := { program := "ytgckcffgkgfakaa", sum := "cf828fdb2f6d607b583741ed7cb666385f319e2e453d221c57fe9408c43e29b0", func := "stet/stetlaw23.FixTrue", spec := "fixTrue", unfollowed := true, recurses := true, apart := false, narrowed := true }
def FixTrueUptoSaid : Prop := fixTrueUptoRow.holds Try.pinned (OpenSpec.upto fixTrueSpec)

/-- 'stetlaw23.FixNames', WHERE WHAT IT READS IS OF BULK AT MOST 1048576: true; the input reads as it did. -/
def fixNamesUptoRow : OpenClaim := { program := "ytgckcffgkgfakaa", sum := "cf828fdb2f6d607b583741ed7cb666385f319e2e453d221c57fe9408c43e29b0", func := "stet/stetlaw23.FixNames", spec := "fixNames", unfollowed := true, recurses := true, apart := false, narrowed := true }
def FixNamesUptoSaid : Prop := fixNamesUptoRow.holds Try.pinned (OpenSpec.upto fixNamesSpec)

/-- 'stetlaw23.FixAhead', WHERE WHAT IT READS IS OF BULK AT MOST 1048576: true; the input reads as it did. -/
def fixAheadUptoRow : OpenClaim := { program := "ytgckcffgkgfakaa", sum := "cf828fdb2f6d607b583741ed7cb666385f319e2e453d221c57fe9408c43e29b0", func := "stet/stetlaw23.FixAhead", spec := "fixAhead", unfollowed := true, recurses := true, apart := false, narrowed := true }
def FixAheadUptoSaid : Prop := fixAheadUptoRow.holds Try.pinned (OpenSpec.upto fixAheadSpec)

end Rows
end Go.Proofs.Ytgckcffgkgfakaa
