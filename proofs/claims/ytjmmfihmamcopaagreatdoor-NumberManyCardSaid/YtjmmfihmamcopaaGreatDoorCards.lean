/-
  DERIVED. GIVEN WITH THE SEED: THE CARDS: each row of YtjmmfihmamcopaaGreatDoorRows.lean that lists a variable, with what it lists TIED to the program's text (the seventh form; the later family's looks); each row that meets fmt, with fmt's text TOLD by the authors' own Lean function (tested against real Go, not proved from fmt's source: count such statements apart). THE CARD IS WHAT COUNTS. Prove the row's statement (the work); the ties are given (YtjmmfihmamcopaaGreatDoorTie.lean); close each card by the builder's one call (the guide's Derived/Test/ToyasCard.lean, 'card_holds'). Laid BY PROGRAM, IN A SANDBOX (cutbox-door.mjs). By AI agents, Wed Nov 11 2026. No macro, syntax, notation, axiom, sorry.
-/
import Derived.Test.YtjmmfihmamcopaaGreatDoorRows
import GoSem.ClaimSeven
namespace Go.Proofs.YtjmmfihmamcopaaGreatDoor
namespace Rows

/-- THE TIED CARD OF 'stetlaw11.NumberTells'. -/
def numberTellsCard : Claim7 := { stood := { row := numberTellsRow, standIns := [], harness := (true, "67d6711b8014e9fcb10b525c15515ad3fd0c1f755543d53403fe371d4ea85a54"), looks := false }, kinds := [], alts := [], laidByText := true, laidKinds := [.data, .data, .data, .data, .data, .pinned, .pinned], laidTests := true, laidLooks := .later }
def NumberTellsCardSaid : Prop := Claim7.holds Tryz.pinned (.plain (OpenSpec.ofChange numberTellsSpec)) numberTellsCard

/-- THE TIED CARD OF 'stetlaw11.NumberMany'. -/
def numberManyCard : Claim7 := { stood := { row := numberManyRow, standIns := [], harness := (true, "67d6711b8014e9fcb10b525c15515ad3fd0c1f755543d53403fe371d4ea85a54"), looks := false }, kinds := [], alts := [], laidByText := true, laidKinds := [.data, .data, .data, .data, .data, .pinned, .pinned], laidTests := true, laidLooks := .later }
def NumberManyCardSaid : Prop := Claim7.holds Tryz.pinned (.plain (OpenSpec.ofChange numberManySpec)) numberManyCard

/-- THE SECOND FORM's CARD OF 'stetlaw11.NumberTells'. -/
def numberTellsUptoCard : Claim7 := { stood := { row := numberTellsUptoRow, standIns := [], harness := (true, "67d6711b8014e9fcb10b525c15515ad3fd0c1f755543d53403fe371d4ea85a54"), looks := false }, kinds := [], alts := [], laidByText := true, laidKinds := [.data, .data, .data, .data, .data, .pinned, .pinned], laidTests := true, laidLooks := .later }
def NumberTellsUptoCardSaid : Prop := Claim7.holds Tryz.pinned (.plain (OpenSpec.upto numberTellsSpec)) numberTellsUptoCard

/-- THE SECOND FORM's CARD OF 'stetlaw11.NumberMany'. -/
def numberManyUptoCard : Claim7 := { stood := { row := numberManyUptoRow, standIns := [], harness := (true, "67d6711b8014e9fcb10b525c15515ad3fd0c1f755543d53403fe371d4ea85a54"), looks := false }, kinds := [], alts := [], laidByText := true, laidKinds := [.data, .data, .data, .data, .data, .pinned, .pinned], laidTests := true, laidLooks := .later }
def NumberManyUptoCardSaid : Prop := Claim7.holds Tryz.pinned (.plain (OpenSpec.upto numberManySpec)) numberManyUptoCard
end Rows
end Go.Proofs.YtjmmfihmamcopaaGreatDoor
