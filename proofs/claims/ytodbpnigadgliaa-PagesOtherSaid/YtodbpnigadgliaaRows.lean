/-
  No cell of these rows narrows 'for every input' (looked for: loops, veiled, ifaces, maps, wideKeys, modest, calm, conditions, laid).
  DERIVED. THE GIVEN ROWS OF THIS SEAT. 5 by the template 'for every input the law returns true; each argument reads behind the call as it read before'; 0 by the template 'total and deterministic' (their statements: YtodbpnigadgliaaTotals.lean).
  GIVEN WITH THE SEED: the statements are not yours to turn. If you find one false, say at which input.
  Laid BY PROGRAM, IN A SANDBOX (cutbox-rows.mjs): the forced cells as the released guide's own fill.sh prints them over the translation 3f846b6fe460c395… (all of the seat's roots in one cut). By AI agents, Wed Nov 11 2026. No macro, syntax, notation, axiom, sorry.
-/
import Derived.Test.YtodbpnigadgliaaChecked
import GoSem.Claim
import GoSem.ClaimJoined
import GoSem.ClaimMapViews
import Derived.JoinedTies
import Derived.KernelRfl
namespace Go.Proofs.Ytodbpnigadgliaa
/- THE CELL 'sum', in the pinned program and in every row, IS THE sha256 OF THE DUMP (.gsa) THAT YtodbpnigadgliaaProg.lean LOADS. Nothing in Lean hashes anything: it is a label: what it is worth is what the hold of that sum in a sandbox is worth. -/
noncomputable def Try.pinned : Pinned := { name := "ytodbpnigadgliaa", sum := "3f846b6fe460c3957716993ce0ea2f710fb6e54870367286a16d06c68de4e16a", checked := Try.checked }
namespace Rows
def none {H : Type} : Left H := { results := [], args := [] }

/-- 'stetlaw13.PagesTell': WHATEVER THE INPUT: true; the input reads as it did. -/
def pagesTellSpec : ChangeSpec := { name := "pagesTell", fn := fun _ => fun
  | [d1, d2, d3] => { results := [.lit (.bool true)], args := [d1, d2, d3] }
  | _ => none }
def pagesTellRow : OpenClaim := { program := "ytodbpnigadgliaa", sum := "3f846b6fe460c3957716993ce0ea2f710fb6e54870367286a16d06c68de4e16a", func := "stet/stetlaw13.PagesTell", spec := "pagesTell", apart := false }
def PagesTellSaid : Prop := pagesTellRow.holds Try.pinned (OpenSpec.ofChange pagesTellSpec)

/-- ITS FALSE NEIGHBOUR: 'it returns false'. Refute it at one input. -/
def pagesTellWrong : ChangeSpec := { name := "pagesTell", fn := fun _ => fun
  | [d1, d2, d3] => { results := [.lit (.bool false)], args := [d1, d2, d3] }
  | _ => none }
def PagesTellWrongFalsely : Prop := pagesTellRow.holds Try.pinned (OpenSpec.ofChange pagesTellWrong)

/-- 'stetlaw13.PagesBounds': WHATEVER THE INPUT: true; the input reads as it did. -/
def pagesBoundsSpec : ChangeSpec := { name := "pagesBounds", fn := fun _ => fun
  | [d1, d2] => { results := [.lit (.bool true)], args := [d1, d2] }
  | _ => none }
def pagesBoundsRow : OpenClaim := { program := "ytodbpnigadgliaa", sum := "3f846b6fe460c3957716993ce0ea2f710fb6e54870367286a16d06c68de4e16a", func := "stet/stetlaw13.PagesBounds", spec := "pagesBounds", apart := false }
def PagesBoundsSaid : Prop := pagesBoundsRow.holds Try.pinned (OpenSpec.ofChange pagesBoundsSpec)

/-- ITS FALSE NEIGHBOUR: 'it returns false'. Refute it at one input. -/
def pagesBoundsWrong : ChangeSpec := { name := "pagesBounds", fn := fun _ => fun
  | [d1, d2] => { results := [.lit (.bool false)], args := [d1, d2] }
  | _ => none }
def PagesBoundsWrongFalsely : Prop := pagesBoundsRow.holds Try.pinned (OpenSpec.ofChange pagesBoundsWrong)

/-- 'stetlaw13.PagesFull': WHATEVER THE INPUT: true; the input reads as it did. -/
def pagesFullSpec : ChangeSpec := { name := "pagesFull", fn := fun _ => fun
  | [d1, d2] => { results := [.lit (.bool true)], args := [d1, d2] }
  | _ => none }
def pagesFullRow : OpenClaim := { program := "ytodbpnigadgliaa", sum := "3f846b6fe460c3957716993ce0ea2f710fb6e54870367286a16d06c68de4e16a", func := "stet/stetlaw13.PagesFull", spec := "pagesFull", apart := false }
def PagesFullSaid : Prop := pagesFullRow.holds Try.pinned (OpenSpec.ofChange pagesFullSpec)

/-- ITS FALSE NEIGHBOUR: 'it returns false'. Refute it at one input. -/
def pagesFullWrong : ChangeSpec := { name := "pagesFull", fn := fun _ => fun
  | [d1, d2] => { results := [.lit (.bool false)], args := [d1, d2] }
  | _ => none }
def PagesFullWrongFalsely : Prop := pagesFullRow.holds Try.pinned (OpenSpec.ofChange pagesFullWrong)

/-- 'stetlaw13.PagesRest': WHATEVER THE INPUT: true; the input reads as it did. -/
def pagesRestSpec : ChangeSpec := { name := "pagesRest", fn := fun _ => fun
  | [d1, d2, d3] => { results := [.lit (.bool true)], args := [d1, d2, d3] }
  | _ => none }
def pagesRestRow : OpenClaim := { program := "ytodbpnigadgliaa", sum := "3f846b6fe460c3957716993ce0ea2f710fb6e54870367286a16d06c68de4e16a", func := "stet/stetlaw13.PagesRest", spec := "pagesRest", apart := false }
def PagesRestSaid : Prop := pagesRestRow.holds Try.pinned (OpenSpec.ofChange pagesRestSpec)

/-- ITS FALSE NEIGHBOUR: 'it returns false'. Refute it at one input. -/
def pagesRestWrong : ChangeSpec := { name := "pagesRest", fn := fun _ => fun
  | [d1, d2, d3] => { results := [.lit (.bool false)], args := [d1, d2, d3] }
  | _ => none }
def PagesRestWrongFalsely : Prop := pagesRestRow.holds Try.pinned (OpenSpec.ofChange pagesRestWrong)

/-- 'stetlaw13.PagesOther': WHATEVER THE INPUT: true; the input reads as it did. -/
def pagesOtherSpec : ChangeSpec := { name := "pagesOther", fn := fun _ => fun
  | [d1, d2] => { results := [.lit (.bool true)], args := [d1, d2] }
  | _ => none }
def pagesOtherRow : OpenClaim := { program := "ytodbpnigadgliaa", sum := "3f846b6fe460c3957716993ce0ea2f710fb6e54870367286a16d06c68de4e16a", func := "stet/stetlaw13.PagesOther", spec := "pagesOther", apart := false }
def PagesOtherSaid : Prop := pagesOtherRow.holds Try.pinned (OpenSpec.ofChange pagesOtherSpec)

/-- ITS FALSE NEIGHBOUR: 'it returns false'. Refute it at one input. -/
def pagesOtherWrong : ChangeSpec := { name := "pagesOther", fn := fun _ => fun
  | [d1, d2] => { results := [.lit (.bool false)], args := [d1, d2] }
  | _ => none }
def PagesOtherWrongFalsely : Prop := pagesOtherRow.holds Try.pinned (OpenSpec.ofChange pagesOtherWrong)

/- THE SECOND FORM. 'bulk': how many values and letters a reading holds, each counted each time it is reached (what is shared counts as often as it is met; a slice's spare places count too). A statement '..UptoSaid' is the law's where the arguments, and the package variables that the reading takes, are together of bulk at most 1048576: NARROWER than '..Said'. Prove '..Said' where nothing that the law and all that it calls make is longer than what came in: it says more and counts as full. Else prove '..UptoSaid'. A law counts once. -/
mutual
def uptoBulk {H : Type} : DataW H → Nat
  | .lit (.string bytes) => bytes.length + 1
  | .lit _ => 1
  | .nil => 1
  | .ptr d => uptoBulk d + 1
  | .slice elems spare => uptoBulkAll elems + uptoBulkAll spare + 1
  | .agg parts => uptoBulkAll parts + 1
  | .iface _ d => uptoBulk d + 1
  | .map entries => uptoBulkEntries entries + 1
  | .held _ => 1
def uptoBulkAll {H : Type} : List (DataW H) → Nat
  | [] => 0
  | d :: r => uptoBulk d + uptoBulkAll r
def uptoBulkEntries {H : Type} : List (Lit × DataW H) → Nat
  | [] => 0
  | x :: r => uptoBulkEntry x + uptoBulkEntries r
def uptoBulkEntry {H : Type} : Lit × DataW H → Nat
  | (.string bytes, d) => bytes.length + uptoBulk d + 1
  | (_, d) => uptoBulk d + 1
 end
def uptoSmall : (H : Type) → List (DataW H) → Bool := fun _ ds => decide (uptoBulkAll ds ≤ 1048576)
def OpenSpec.upto (s : _root_.Go.ChangeSpec) : _root_.Go.OpenSpec := { _root_.Go.OpenSpec.ofChange s with cond := some uptoSmall }

/-- 'stetlaw13.PagesTell', WHERE WHAT IT READS IS OF BULK AT MOST 1048576: true; the input reads as it did. -/
def pagesTellUptoRow : OpenClaim := { program := "ytodbpnigadgliaa", sum := "3f846b6fe460c3957716993ce0ea2f710fb6e54870367286a16d06c68de4e16a", func := "stet/stetlaw13.PagesTell", spec := "pagesTell", apart := false, narrowed := true }
def PagesTellUptoSaid : Prop := pagesTellUptoRow.holds Try.pinned (OpenSpec.upto pagesTellSpec)

/-- 'stetlaw13.PagesBounds', WHERE WHAT IT READS IS OF BULK AT MOST 1048576: true; the input reads as it did. -/
def pagesBoundsUptoRow : OpenClaim := { program := "ytodbpnigadgliaa", sum := "3f846b6fe460c3957716993ce0ea2f710fb6e54870367286a16d06c68de4e16a", func := "stet/stetlaw13.PagesBounds", spec := "pagesBounds", apart := false, narrowed := true }
def PagesBoundsUptoSaid : Prop := pagesBoundsUptoRow.holds Try.pinned (OpenSpec.upto pagesBoundsSpec)

/-- 'stetlaw13.PagesFull', WHERE WHAT IT READS IS OF BULK AT MOST 1048576: true; the input reads as it did. -/
def pagesFullUptoRow : OpenClaim := { program := "ytodbpnigadgliaa", sum := "3f846b6fe460c3957716993ce0ea2f710fb6e54870367286a16d06c68de4e16a", func := "stet/stetlaw13.PagesFull", spec := "pagesFull", apart := false, narrowed := true }
def PagesFullUptoSaid : Prop := pagesFullUptoRow.holds Try.pinned (OpenSpec.upto pagesFullSpec)

/-- 'stetlaw13.PagesRest', WHERE WHAT IT READS IS OF BULK AT MOST 1048576: true; the input reads as it did. -/
def pagesRestUptoRow : OpenClaim := { program := "ytodbpnigadgliaa", sum := "3f846b6fe460c3957716993ce0ea2f710fb6e54870367286a16d06c68de4e16a", func := "stet/stetlaw13.PagesRest", spec := "pagesRest", apart := false, narrowed := true }
def PagesRestUptoSaid : Prop := pagesRestUptoRow.holds Try.pinned (OpenSpec.upto pagesRestSpec)

/-- 'stetlaw13.PagesOther', WHERE WHAT IT READS IS OF BULK AT MOST 1048576: true; the input reads as it did. -/
def pagesOtherUptoRow : OpenClaim := { program := "ytodbpnigadgliaa", sum := "3f846b6fe460c3957716993ce0ea2f710fb6e54870367286a16d06c68de4e16a", func := "stet/stetlaw13.PagesOther", spec := "pagesOther", apart := false, narrowed := true }
def PagesOtherUptoSaid : Prop := pagesOtherUptoRow.holds Try.pinned (OpenSpec.upto pagesOtherSpec)

end Rows
end Go.Proofs.Ytodbpnigadgliaa
