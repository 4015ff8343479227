/-
  DERIVED. GIVEN WITH THE SEED: THE CARDS: each row of YtiogmegdkfnkkaaGreatDoorRows.lean that lists a variable, with what it lists TIED to the program's text (the seventh form; the later family's looks); each row that meets fmt, with fmt's text TOLD by the authors' own Lean function (tested against real Go, not proved from fmt's source: count such statements apart). THE CARD IS WHAT COUNTS. Prove the row's statement (the work); the ties are given (YtiogmegdkfnkkaaGreatDoorTie.lean); close each card by the builder's one call (the guide's Derived/Test/ToyasCard.lean, 'card_holds'). Laid BY PROGRAM, IN A SANDBOX (cutbox-door.mjs). By AI agents, Wed Nov 11 2026. No macro, syntax, notation, axiom, sorry.
-/
import Derived.Test.YtiogmegdkfnkkaaGreatDoorRows
import GoSem.ClaimSeven
namespace Go.Proofs.YtiogmegdkfnkkaaGreatDoor
namespace Rows

/-- THE TIED CARD OF 'stetlaw20.RecordTells'. -/
def recordTellsCard : Claim7 := { stood := { row := recordTellsRow, standIns := [], harness := (true, "ed71a63f3a3e5da76d9b3e55acf2f7b01a2e33c67d0d1bd4feb4da062e0a11eb"), looks := true }, kinds := [], alts := [], laidByText := true, laidKinds := [.data, .data, .data, .handle], laidTests := true, laidLooks := .later }
def RecordTellsCardSaid : Prop := Claim7.holds Tryz.pinned (.plain (OpenSpec.ofChange recordTellsSpec)) recordTellsCard

/-- THE SECOND FORM's CARD OF 'stetlaw20.RecordTells'. -/
def recordTellsUptoCard : Claim7 := { stood := { row := recordTellsUptoRow, standIns := [], harness := (true, "ed71a63f3a3e5da76d9b3e55acf2f7b01a2e33c67d0d1bd4feb4da062e0a11eb"), looks := true }, kinds := [], alts := [], laidByText := true, laidKinds := [.data, .data, .data, .handle], laidTests := true, laidLooks := .later }
def RecordTellsUptoCardSaid : Prop := Claim7.holds Tryz.pinned (.plain (OpenSpec.upto recordTellsSpec)) recordTellsUptoCard
end Rows
end Go.Proofs.YtiogmegdkfnkkaaGreatDoor
