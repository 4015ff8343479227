/-
  DERIVED. GIVEN WITH THE SEED: THE CARDS: each row of YtjmmfihmamcopaaDoorRows.lean that lists a variable, with what it lists TIED to the program's text (the seventh form; the later family's looks); each row that meets fmt, with fmt's text TOLD by the authors' own Lean function (tested against real Go, not proved from fmt's source: count such statements apart). THE CARD IS WHAT COUNTS. Prove the row's statement (the work); the ties are given (YtjmmfihmamcopaaDoorTie.lean); close each card by the builder's one call (the guide's Derived/Test/ToyasCard.lean, 'card_holds'). Laid BY PROGRAM, IN A SANDBOX (cutbox-door.mjs). By AI agents, Wed Nov 11 2026. No macro, syntax, notation, axiom, sorry.
-/
import Derived.Test.YtjmmfihmamcopaaDoorRows
import GoSem.ClaimSeven
namespace Go.Proofs.YtjmmfihmamcopaaDoor
namespace Rows

/-- THE TIED CARD OF 'stetlaw11.NumberNext'. -/
def numberNextCard : Claim7 := { stood := { row := numberNextRow, standIns := [], harness := (true, "a01da9093912717969668ba9bdf91373681542159c2b161787715a8139f3ede1"), looks := false }, kinds := [], alts := [], laidByText := true, laidKinds := [.data, .data, .data, .data, .data, .pinned, .pinned], laidTests := true, laidLooks := .later }
def NumberNextCardSaid : Prop := Claim7.holds Tryd.pinned (.plain (OpenSpec.ofChange numberNextSpec)) numberNextCard

/-- THE TIED CARD OF 'stetlaw11.NumberCounts'. -/
def numberCountsCard : Claim7 := { stood := { row := numberCountsRow, standIns := [], harness := (true, "a01da9093912717969668ba9bdf91373681542159c2b161787715a8139f3ede1"), looks := false }, kinds := [], alts := [], laidByText := true, laidKinds := [.data, .data, .data, .data, .data, .pinned, .pinned], laidTests := true, laidLooks := .later }
def NumberCountsCardSaid : Prop := Claim7.holds Tryd.pinned (.plain (OpenSpec.ofChange numberCountsSpec)) numberCountsCard

/-- THE TIED CARD OF 'stetlaw11.NumberPlain'. -/
def numberPlainCard : Claim7 := { stood := { row := numberPlainRow, standIns := [], harness := (true, "a01da9093912717969668ba9bdf91373681542159c2b161787715a8139f3ede1"), looks := false }, kinds := [], alts := [], laidByText := true, laidKinds := [.data, .data, .data, .data, .data, .pinned, .pinned], laidTests := true, laidLooks := .later }
def NumberPlainCardSaid : Prop := Claim7.holds Tryd.pinned (.plain (OpenSpec.ofChange numberPlainSpec)) numberPlainCard

/-- THE TIED CARD OF 'stetlaw11.NumberSays'. -/
def numberSaysCard : Claim7 := { stood := { row := numberSaysRow, standIns := [], harness := (true, "a01da9093912717969668ba9bdf91373681542159c2b161787715a8139f3ede1"), looks := false }, kinds := [], alts := [], laidByText := true, laidKinds := [.data, .data, .data, .data, .data, .pinned, .pinned], laidTests := true, laidLooks := .later }
def NumberSaysCardSaid : Prop := Claim7.holds Tryd.pinned (.plain (OpenSpec.ofChange numberSaysSpec)) numberSaysCard

/-- THE SECOND FORM's CARD OF 'stetlaw11.NumberNext'. -/
def numberNextUptoCard : Claim7 := { stood := { row := numberNextUptoRow, standIns := [], harness := (true, "a01da9093912717969668ba9bdf91373681542159c2b161787715a8139f3ede1"), looks := false }, kinds := [], alts := [], laidByText := true, laidKinds := [.data, .data, .data, .data, .data, .pinned, .pinned], laidTests := true, laidLooks := .later }
def NumberNextUptoCardSaid : Prop := Claim7.holds Tryd.pinned (.plain (OpenSpec.upto numberNextSpec)) numberNextUptoCard

/-- THE SECOND FORM's CARD OF 'stetlaw11.NumberCounts'. -/
def numberCountsUptoCard : Claim7 := { stood := { row := numberCountsUptoRow, standIns := [], harness := (true, "a01da9093912717969668ba9bdf91373681542159c2b161787715a8139f3ede1"), looks := false }, kinds := [], alts := [], laidByText := true, laidKinds := [.data, .data, .data, .data, .data, .pinned, .pinned], laidTests := true, laidLooks := .later }
def NumberCountsUptoCardSaid : Prop := Claim7.holds Tryd.pinned (.plain (OpenSpec.upto numberCountsSpec)) numberCountsUptoCard

/-- THE SECOND FORM's CARD OF 'stetlaw11.NumberPlain'. -/
def numberPlainUptoCard : Claim7 := { stood := { row := numberPlainUptoRow, standIns := [], harness := (true, "a01da9093912717969668ba9bdf91373681542159c2b161787715a8139f3ede1"), looks := false }, kinds := [], alts := [], laidByText := true, laidKinds := [.data, .data, .data, .data, .data, .pinned, .pinned], laidTests := true, laidLooks := .later }
def NumberPlainUptoCardSaid : Prop := Claim7.holds Tryd.pinned (.plain (OpenSpec.upto numberPlainSpec)) numberPlainUptoCard

/-- THE SECOND FORM's CARD OF 'stetlaw11.NumberSays'. -/
def numberSaysUptoCard : Claim7 := { stood := { row := numberSaysUptoRow, standIns := [], harness := (true, "a01da9093912717969668ba9bdf91373681542159c2b161787715a8139f3ede1"), looks := false }, kinds := [], alts := [], laidByText := true, laidKinds := [.data, .data, .data, .data, .data, .pinned, .pinned], laidTests := true, laidLooks := .later }
def NumberSaysUptoCardSaid : Prop := Claim7.holds Tryd.pinned (.plain (OpenSpec.upto numberSaysSpec)) numberSaysUptoCard
end Rows
end Go.Proofs.YtjmmfihmamcopaaDoor
