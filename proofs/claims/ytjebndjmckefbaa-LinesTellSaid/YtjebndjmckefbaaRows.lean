/-
  No cell of these rows narrows 'for every input' (looked for: loops, veiled, ifaces, maps, wideKeys, modest, calm, conditions, laid).
  DERIVED. THE GIVEN ROWS OF THIS SEAT. 5 by the template 'for every input the law returns true; each argument reads behind the call as it read before'; 0 by the template 'total and deterministic' (their statements: YtjebndjmckefbaaTotals.lean).
  GIVEN WITH THE SEED: the statements are not yours to turn. If you find one false, say at which input.
  Laid BY PROGRAM, IN A SANDBOX (cutbox-rows.mjs): the forced cells as the released guide's own fill.sh prints them over the translation 5288e9c85b948463… (all of the seat's roots in one cut). By AI agents, Wed Nov 11 2026. No macro, syntax, notation, axiom, sorry.
-/
import Derived.Test.YtjebndjmckefbaaChecked
import GoSem.Claim
import GoSem.ClaimJoined
import GoSem.ClaimMapViews
import Derived.JoinedTies
import Derived.KernelRfl
namespace Go.Proofs.Ytjebndjmckefbaa
/- THE CELL 'sum', in the pinned program and in every row, IS THE sha256 OF THE DUMP (.gsa) THAT YtjebndjmckefbaaProg.lean LOADS. Nothing in Lean hashes anything: it is a label: what it is worth is what the hold of that sum in a sandbox is worth. -/
noncomputable def Try.pinned : Pinned := { name := "ytjebndjmckefbaa", sum := "5288e9c85b948463179067cb1a8953a173df37725228015c71f1e52a22defc22", checked := Try.checked }
namespace Rows
def none {H : Type} : Left H := { results := [], args := [] }

/-- 'stetlaw12.LinesTell': WHATEVER THE INPUT: true; the input reads as it did. -/
def linesTellSpec : ChangeSpec := { name := "linesTell", fn := fun _ => fun
  | [d1, d2, d3] => { results := [.lit (.bool true)], args := [d1, d2, d3] }
  | _ => none }
def linesTellRow : OpenClaim := { program := "ytjebndjmckefbaa", sum := "5288e9c85b948463179067cb1a8953a173df37725228015c71f1e52a22defc22", func := "stet/stetlaw12.LinesTell", spec := "linesTell", unfollowed := true, recurses := true, apart := false }
def LinesTellSaid : Prop := linesTellRow.holds Try.pinned (OpenSpec.ofChange linesTellSpec)

/-- ITS FALSE NEIGHBOUR: 'it returns false'. Refute it at one input. -/
def linesTellWrong : ChangeSpec := { name := "linesTell", fn := fun _ => fun
  | [d1, d2, d3] => { results := [.lit (.bool false)], args := [d1, d2, d3] }
  | _ => none }
def LinesTellWrongFalsely : Prop := linesTellRow.holds Try.pinned (OpenSpec.ofChange linesTellWrong)

/-- 'stetlaw12.LinesBest': WHATEVER THE INPUT: true; the input reads as it did. -/
def linesBestSpec : ChangeSpec := { name := "linesBest", fn := fun _ => fun
  | [d1, d2] => { results := [.lit (.bool true)], args := [d1, d2] }
  | _ => none }
def linesBestRow : OpenClaim := { program := "ytjebndjmckefbaa", sum := "5288e9c85b948463179067cb1a8953a173df37725228015c71f1e52a22defc22", func := "stet/stetlaw12.LinesBest", spec := "linesBest", unfollowed := true, recurses := true, apart := false }
def LinesBestSaid : Prop := linesBestRow.holds Try.pinned (OpenSpec.ofChange linesBestSpec)

/-- ITS FALSE NEIGHBOUR: 'it returns false'. Refute it at one input. -/
def linesBestWrong : ChangeSpec := { name := "linesBest", fn := fun _ => fun
  | [d1, d2] => { results := [.lit (.bool false)], args := [d1, d2] }
  | _ => none }
def LinesBestWrongFalsely : Prop := linesBestRow.holds Try.pinned (OpenSpec.ofChange linesBestWrong)

/-- 'stetlaw12.LinesRest': WHATEVER THE INPUT: true; the input reads as it did. -/
def linesRestSpec : ChangeSpec := { name := "linesRest", fn := fun _ => fun
  | [d1, d2] => { results := [.lit (.bool true)], args := [d1, d2] }
  | _ => none }
def linesRestRow : OpenClaim := { program := "ytjebndjmckefbaa", sum := "5288e9c85b948463179067cb1a8953a173df37725228015c71f1e52a22defc22", func := "stet/stetlaw12.LinesRest", spec := "linesRest", unfollowed := true, recurses := true, apart := false }
def LinesRestSaid : Prop := linesRestRow.holds Try.pinned (OpenSpec.ofChange linesRestSpec)

/-- ITS FALSE NEIGHBOUR: 'it returns false'. Refute it at one input. -/
def linesRestWrong : ChangeSpec := { name := "linesRest", fn := fun _ => fun
  | [d1, d2] => { results := [.lit (.bool false)], args := [d1, d2] }
  | _ => none }
def LinesRestWrongFalsely : Prop := linesRestRow.holds Try.pinned (OpenSpec.ofChange linesRestWrong)

/-- 'stetlaw12.LinesOne': WHATEVER THE INPUT: true; the input reads as it did. -/
def linesOneSpec : ChangeSpec := { name := "linesOne", fn := fun _ => fun
  | [d1, d2, d3] => { results := [.lit (.bool true)], args := [d1, d2, d3] }
  | _ => none }
def linesOneRow : OpenClaim := { program := "ytjebndjmckefbaa", sum := "5288e9c85b948463179067cb1a8953a173df37725228015c71f1e52a22defc22", func := "stet/stetlaw12.LinesOne", spec := "linesOne", unfollowed := true, recurses := true, apart := false }
def LinesOneSaid : Prop := linesOneRow.holds Try.pinned (OpenSpec.ofChange linesOneSpec)

/-- ITS FALSE NEIGHBOUR: 'it returns false'. Refute it at one input. -/
def linesOneWrong : ChangeSpec := { name := "linesOne", fn := fun _ => fun
  | [d1, d2, d3] => { results := [.lit (.bool false)], args := [d1, d2, d3] }
  | _ => none }
def LinesOneWrongFalsely : Prop := linesOneRow.holds Try.pinned (OpenSpec.ofChange linesOneWrong)

/-- 'stetlaw12.LinesLong': WHATEVER THE INPUT: true; the input reads as it did. -/
def linesLongSpec : ChangeSpec := { name := "linesLong", fn := fun _ => fun
  | [d1, d2] => { results := [.lit (.bool true)], args := [d1, d2] }
  | _ => none }
def linesLongRow : OpenClaim := { program := "ytjebndjmckefbaa", sum := "5288e9c85b948463179067cb1a8953a173df37725228015c71f1e52a22defc22", func := "stet/stetlaw12.LinesLong", spec := "linesLong", unfollowed := true, recurses := true, apart := false }
def LinesLongSaid : Prop := linesLongRow.holds Try.pinned (OpenSpec.ofChange linesLongSpec)

/-- ITS FALSE NEIGHBOUR: 'it returns false'. Refute it at one input. -/
def linesLongWrong : ChangeSpec := { name := "linesLong", fn := fun _ => fun
  | [d1, d2] => { results := [.lit (.bool false)], args := [d1, d2] }
  | _ => none }
def LinesLongWrongFalsely : Prop := linesLongRow.holds Try.pinned (OpenSpec.ofChange linesLongWrong)

/- THE SECOND FORM. 'bulk': how many values and letters a reading holds, each counted each time it is reached (what is shared counts as often as it is met; a slice's spare places count too). A statement '..UptoSaid' is the law's where the arguments, and the package variables that the reading takes, are together of bulk at most 1048576: NARROWER than '..Said'. Prove '..Said' where nothing that the law and all that it calls make is longer than what came in: it says more and counts as full. Else prove '..UptoSaid'. A law counts once. -/
mutual
def uptoBulk {H : Type} : DataW H → Nat
  | .lit (.string bytes) => bytes.length + 1
  | .lit _ => 1
  | .nil => 1
  | .ptr d => uptoBulk d + 1
  | .slice elems spare => uptoBulkAll elems + uptoBulkAll spare + 1
  | .agg parts => uptoBulkAll parts + 1
  | .iface _ d => uptoBulk d + 1
  | .map entries => uptoBulkEntries entries + 1
  | .held _ => 1
def uptoBulkAll {H : Type} : List (DataW H) → Nat
  | [] => 0
  | d :: r => uptoBulk d + uptoBulkAll r
def uptoBulkEntries {H : Type} : List (Lit × DataW H) → Nat
  | [] => 0
  | x :: r => uptoBulkEntry x + uptoBulkEntries r
def uptoBulkEntry {H : Type} : Lit × DataW H → Nat
  | (.string bytes, d) => bytes.length + uptoBulk d + 1
  | (_, d) => uptoBulk d + 1
 end
def uptoSmall : (H : Type) → List (DataW H) → Bool := fun _ ds => decide (uptoBulkAll ds ≤ 1048576)
def OpenSpec.upto (s : _root_.Go.ChangeSpec) : _root_.Go.OpenSpec := { _root_.Go.OpenSpec.ofChange s with cond := some uptoSmall }

/-- 'stetlaw12.LinesTell', WHERE WHAT IT READS IS OF BULK AT MOST 1048576: true; the input reads as it did. -/
def linesTellUptoRow : OpenClaim := { program := "ytjebndjmckefbaa", sum := "5288e9c85b948463179067cb1a8953a173df37725228015c71f1e52a22defc22", func := "stet/stetlaw12.LinesTell", spec := "linesTell", unfollowed := true, recurses := true, apart := false, narrowed := true }
def LinesTellUptoSaid : Prop := linesTellUptoRow.holds Try.pinned (OpenSpec.upto linesTellSpec)

/-- 'stetlaw12.LinesBest', WHERE WHAT IT READS IS OF BULK AT MOST 1048576: true; the input reads as it did. -/
def linesBestUptoRow : OpenClaim := { program := "ytjebndjmckefbaa", sum := "5288e9c85b948463179067cb1a8953a173df37725228015c71f1e52a22defc22", func := "stet/stetlaw12.LinesBest", spec := "linesBest", unfollowed := true, recurses := true, apart := false, narrowed := true }
def LinesBestUptoSaid : Prop := linesBestUptoRow.holds Try.pinned (OpenSpec.upto linesBestSpec)

/-- 'stetlaw12.LinesRest', WHERE WHAT IT READS IS OF BULK AT MOST 1048576: true; the input reads as it did. -/
def linesRestUptoRow : OpenClaim := { program := "ytjebndjmckefbaa", sum := "5288e9c85b948463179067cb1a8953a173df37725228015c71f1e52a22defc22", func := "stet/stetlaw12.LinesRest", spec := "linesRest", unfollowed := true, recurses := true, apart := false, narrowed := true }
def LinesRestUptoSaid : Prop := linesRestUptoRow.holds Try.pinned (OpenSpec.upto linesRestSpec)

/-- 'stetlaw12.LinesOne', WHERE WHAT IT READS IS OF BULK AT MOST 1048576: true; the input reads as it did. -/
def linesOneUptoRow : OpenClaim := { program := "ytjebndjmckefbaa", sum := "5288e9c85b948463179067cb1a8953a173df37725228015c71f1e52a22defc22", func := "stet/stetlaw12.LinesOne", spec := "linesOne", unfollowed := true, recurses := true, apart := false, narrowed := true }
def LinesOneUptoSaid : Prop := linesOneUptoRow.holds Try.pinned (OpenSpec.upto linesOneSpec)

/-- 'stetlaw12.LinesLong', WHERE WHAT IT READS IS OF BULK AT MOST 1048576: true; the input reads as it did. -/
def linesLongUptoRow : OpenClaim := { program := "ytjebndjmckefbaa", sum := "5288e9c85b948463179067cb1a8953a173df37725228015c71f1e52a22defc22", func := "stet/stetlaw12.LinesLong", spec := "linesLong", unfollowed := true, recurses := true, apart := false, narrowed := true }
def LinesLongUptoSaid : Prop := linesLongUptoRow.holds Try.pinned (OpenSpec.upto linesLongSpec)

end Rows
end Go.Proofs.Ytjebndjmckefbaa
