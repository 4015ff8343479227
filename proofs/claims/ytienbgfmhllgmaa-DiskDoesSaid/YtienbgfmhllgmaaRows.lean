/-
  No cell of these rows narrows 'for every input' (looked for: loops, veiled, ifaces, maps, wideKeys, modest, calm, conditions, laid).
  DERIVED. THE GIVEN ROWS OF THIS SEAT. 5 by the template 'for every input the law returns true; each argument reads behind the call as it read before'; 0 by the template 'total and deterministic' (their statements: YtienbgfmhllgmaaTotals.lean).
  GIVEN WITH THE SEED: the statements are not yours to turn. If you find one false, say at which input.
  Laid BY PROGRAM, IN A SANDBOX (cutbox-rows.mjs): the forced cells as the released guide's own fill.sh prints them over the translation cddd58e2414fc8f7… (all of the seat's roots in one cut). By AI agents, Wed Nov 11 2026. No macro, syntax, notation, axiom, sorry.
-/
import Derived.Test.YtienbgfmhllgmaaChecked
import GoSem.Claim
import GoSem.ClaimJoined
import GoSem.ClaimMapViews
import Derived.JoinedTies
import Derived.KernelRfl
namespace Go.Proofs.Ytienbgfmhllgmaa
/- THE CELL 'sum', in the pinned program and in every row, IS THE sha256 OF THE DUMP (.gsa) THAT YtienbgfmhllgmaaProg.lean LOADS. Nothing in Lean hashes anything: it is a label: what it is worth is what the hold of that sum in a sandbox is worth. -/
noncomputable def Try.pinned : Pinned := { name := "ytienbgfmhllgmaa", sum := "cddd58e2414fc8f71d011f8cb3e28c8ab7f933fa8a5fa31d3854d4c961f55d5c", checked := Try.checked }
namespace Rows
def none {H : Type} : Left H := { results := [], args := [] }

/-- 'stetlaw04.DiskKeeps': WHATEVER THE INPUT: true; the input reads as it did. -/
def diskKeepsSpec : ChangeSpec := { name := "diskKeeps", fn := fun _ => fun
  | [d1, d2, d3] => { results := [.lit (.bool true)], args := [d1, d2, d3] }
  | _ => none }
def diskKeepsRow : OpenClaim := { program := "ytienbgfmhllgmaa", sum := "cddd58e2414fc8f71d011f8cb3e28c8ab7f933fa8a5fa31d3854d4c961f55d5c", func := "stet/stetlaw04.DiskKeeps", spec := "diskKeeps", unfollowed := true, recurses := true, apart := false }
def DiskKeepsSaid : Prop := diskKeepsRow.holds Try.pinned (OpenSpec.ofChange diskKeepsSpec)

/-- ITS FALSE NEIGHBOUR: 'it returns false'. Refute it at one input. -/
def diskKeepsWrong : ChangeSpec := { name := "diskKeeps", fn := fun _ => fun
  | [d1, d2, d3] => { results := [.lit (.bool false)], args := [d1, d2, d3] }
  | _ => none }
def DiskKeepsWrongFalsely : Prop := diskKeepsRow.holds Try.pinned (OpenSpec.ofChange diskKeepsWrong)

/-- 'stetlaw04.DiskOne': WHATEVER THE INPUT: true; the input reads as it did. -/
def diskOneSpec : ChangeSpec := { name := "diskOne", fn := fun _ => fun
  | [d1, d2] => { results := [.lit (.bool true)], args := [d1, d2] }
  | _ => none }
def diskOneRow : OpenClaim := { program := "ytienbgfmhllgmaa", sum := "cddd58e2414fc8f71d011f8cb3e28c8ab7f933fa8a5fa31d3854d4c961f55d5c", func := "stet/stetlaw04.DiskOne", spec := "diskOne", unfollowed := true, recurses := true, apart := false }
def DiskOneSaid : Prop := diskOneRow.holds Try.pinned (OpenSpec.ofChange diskOneSpec)

/-- ITS FALSE NEIGHBOUR: 'it returns false'. Refute it at one input. -/
def diskOneWrong : ChangeSpec := { name := "diskOne", fn := fun _ => fun
  | [d1, d2] => { results := [.lit (.bool false)], args := [d1, d2] }
  | _ => none }
def DiskOneWrongFalsely : Prop := diskOneRow.holds Try.pinned (OpenSpec.ofChange diskOneWrong)

/-- 'stetlaw04.DiskAll': WHATEVER THE INPUT: true; the input reads as it did. -/
def diskAllSpec : ChangeSpec := { name := "diskAll", fn := fun _ => fun
  | [d] => { results := [.lit (.bool true)], args := [d] }
  | _ => none }
def diskAllRow : OpenClaim := { program := "ytienbgfmhllgmaa", sum := "cddd58e2414fc8f71d011f8cb3e28c8ab7f933fa8a5fa31d3854d4c961f55d5c", func := "stet/stetlaw04.DiskAll", spec := "diskAll", unfollowed := true, recurses := true, apart := false }
def DiskAllSaid : Prop := diskAllRow.holds Try.pinned (OpenSpec.ofChange diskAllSpec)

/-- ITS FALSE NEIGHBOUR: 'it returns false'. Refute it at one input. -/
def diskAllWrong : ChangeSpec := { name := "diskAll", fn := fun _ => fun
  | [d] => { results := [.lit (.bool false)], args := [d] }
  | _ => none }
def DiskAllWrongFalsely : Prop := diskAllRow.holds Try.pinned (OpenSpec.ofChange diskAllWrong)

/-- 'stetlaw04.DiskSwap': WHATEVER THE INPUT: true; the input reads as it did. -/
def diskSwapSpec : ChangeSpec := { name := "diskSwap", fn := fun _ => fun
  | [d1, d2] => { results := [.lit (.bool true)], args := [d1, d2] }
  | _ => none }
def diskSwapRow : OpenClaim := { program := "ytienbgfmhllgmaa", sum := "cddd58e2414fc8f71d011f8cb3e28c8ab7f933fa8a5fa31d3854d4c961f55d5c", func := "stet/stetlaw04.DiskSwap", spec := "diskSwap", unfollowed := true, recurses := true, apart := false }
def DiskSwapSaid : Prop := diskSwapRow.holds Try.pinned (OpenSpec.ofChange diskSwapSpec)

/-- ITS FALSE NEIGHBOUR: 'it returns false'. Refute it at one input. -/
def diskSwapWrong : ChangeSpec := { name := "diskSwap", fn := fun _ => fun
  | [d1, d2] => { results := [.lit (.bool false)], args := [d1, d2] }
  | _ => none }
def DiskSwapWrongFalsely : Prop := diskSwapRow.holds Try.pinned (OpenSpec.ofChange diskSwapWrong)

/-- 'stetlaw04.DiskDoes': WHATEVER THE INPUT: true; the input reads as it did. -/
def diskDoesSpec : ChangeSpec := { name := "diskDoes", fn := fun _ => fun
  | [d1, d2, d3] => { results := [.lit (.bool true)], args := [d1, d2, d3] }
  | _ => none }
def diskDoesRow : OpenClaim := { program := "ytienbgfmhllgmaa", sum := "cddd58e2414fc8f71d011f8cb3e28c8ab7f933fa8a5fa31d3854d4c961f55d5c", func := "stet/stetlaw04.DiskDoes", spec := "diskDoes", inPlace := ["maps.clone"], unfollowed := true, recurses := true, apart := false }
def DiskDoesSaid : Prop := diskDoesRow.holds Try.pinned (OpenSpec.ofChange diskDoesSpec)

/-- ITS FALSE NEIGHBOUR: 'it returns false'. Refute it at one input. -/
def diskDoesWrong : ChangeSpec := { name := "diskDoes", fn := fun _ => fun
  | [d1, d2, d3] => { results := [.lit (.bool false)], args := [d1, d2, d3] }
  | _ => none }
def DiskDoesWrongFalsely : Prop := diskDoesRow.holds Try.pinned (OpenSpec.ofChange diskDoesWrong)

/- THE SECOND FORM. 'bulk': how many values and letters a reading holds, each counted each time it is reached (what is shared counts as often as it is met; a slice's spare places count too). A statement '..UptoSaid' is the law's where the arguments, and the package variables that the reading takes, are together of bulk at most 1048576: NARROWER than '..Said'. Prove '..Said' where nothing that the law and all that it calls make is longer than what came in: it says more and counts as full. Else prove '..UptoSaid'. A law counts once. -/
mutual
def uptoBulk {H : Type} : DataW H → Nat
  | .lit (.string bytes) => bytes.length + 1
  | .lit _ => 1
  | .nil => 1
  | .ptr d => uptoBulk d + 1
  | .slice elems spare => uptoBulkAll elems + uptoBulkAll spare + 1
  | .agg parts => uptoBulkAll parts + 1
  | .iface _ d => uptoBulk d + 1
  | .map entries => uptoBulkEntries entries + 1
  | .held _ => 1
def uptoBulkAll {H : Type} : List (DataW H) → Nat
  | [] => 0
  | d :: r => uptoBulk d + uptoBulkAll r
def uptoBulkEntries {H : Type} : List (Lit × DataW H) → Nat
  | [] => 0
  | x :: r => uptoBulkEntry x + uptoBulkEntries r
def uptoBulkEntry {H : Type} : Lit × DataW H → Nat
  | (.string bytes, d) => bytes.length + uptoBulk d + 1
  | (_, d) => uptoBulk d + 1
 end
def uptoSmall : (H : Type) → List (DataW H) → Bool := fun _ ds => decide (uptoBulkAll ds ≤ 1048576)
def OpenSpec.upto (s : _root_.Go.ChangeSpec) : _root_.Go.OpenSpec := { _root_.Go.OpenSpec.ofChange s with cond := some uptoSmall }

/-- 'stetlaw04.DiskKeeps', WHERE WHAT IT READS IS OF BULK AT MOST 1048576: true; the input reads as it did. -/
def diskKeepsUptoRow : OpenClaim := { program := "ytienbgfmhllgmaa", sum := "cddd58e2414fc8f71d011f8cb3e28c8ab7f933fa8a5fa31d3854d4c961f55d5c", func := "stet/stetlaw04.DiskKeeps", spec := "diskKeeps", unfollowed := true, recurses := true, apart := false, narrowed := true }
def DiskKeepsUptoSaid : Prop := diskKeepsUptoRow.holds Try.pinned (OpenSpec.upto diskKeepsSpec)

/-- 'stetlaw04.DiskOne', WHERE WHAT IT READS IS OF BULK AT MOST 1048576: true; the input reads as it did. -/
def diskOneUptoRow : OpenClaim := { program := "ytienbgfmhllgmaa", sum := "cddd58e2414fc8f71d011f8cb3e28c8ab7f933fa8a5fa31d3854d4c961f55d5c", func := "stet/stetlaw04.DiskOne", spec := "diskOne", unfollowed := true, recurses := true, apart := false, narrowed := true }
def DiskOneUptoSaid : Prop := diskOneUptoRow.holds Try.pinned (OpenSpec.upto diskOneSpec)

/-- 'stetlaw04.DiskAll', WHERE WHAT IT READS IS OF BULK AT MOST 1048576: true; the input reads as it did. -/
def diskAllUptoRow : OpenClaim := { program := "ytienbgfmhllgmaa", sum := "cddd58e2414fc8f71d011f8cb3e28c8ab7f933fa8a5fa31d3854d4c961f55d5c", func := "stet/stetlaw04.DiskAll", spec := "diskAll", unfollowed := true, recurses := true, apart := false, narrowed := true }
def DiskAllUptoSaid : Prop := diskAllUptoRow.holds Try.pinned (OpenSpec.upto diskAllSpec)

/-- 'stetlaw04.DiskSwap', WHERE WHAT IT READS IS OF BULK AT MOST 1048576: true; the input reads as it did. -/
def diskSwapUptoRow : OpenClaim := { program := "ytienbgfmhllgmaa", sum := "cddd58e2414fc8f71d011f8cb3e28c8ab7f933fa8a5fa31d3854d4c961f55d5c", func := "stet/stetlaw04.DiskSwap", spec := "diskSwap", unfollowed := true, recurses := true, apart := false, narrowed := true }
def DiskSwapUptoSaid : Prop := diskSwapUptoRow.holds Try.pinned (OpenSpec.upto diskSwapSpec)

/-- 'stetlaw04.DiskDoes', WHERE WHAT IT READS IS OF BULK AT MOST 1048576: true; the input reads as it did. -/
def diskDoesUptoRow : OpenClaim := { program := "ytienbgfmhllgmaa", sum := "cddd58e2414fc8f71d011f8cb3e28c8ab7f933fa8a5fa31d3854d4c961f55d5c", func := "stet/stetlaw04.DiskDoes", spec := "diskDoes", inPlace := ["maps.clone"], unfollowed := true, recurses := true, apart := false, narrowed := true }
def DiskDoesUptoSaid : Prop := diskDoesUptoRow.holds Try.pinned (OpenSpec.upto diskDoesSpec)

end Rows
end Go.Proofs.Ytienbgfmhllgmaa
