/-
  DERIVED. GIVEN WITH THE SEED: THE CARDS: each row of YtiogmegdkfnkkaaDoorRows.lean that lists a variable, with what it lists TIED to the program's text (the seventh form; the later family's looks); each row that meets fmt, with fmt's text TOLD by the authors' own Lean function (tested against real Go, not proved from fmt's source: count such statements apart). THE CARD IS WHAT COUNTS. Prove the row's statement (the work); the ties are given (YtiogmegdkfnkkaaDoorTie.lean); close each card by the builder's one call (the guide's Derived/Test/ToyasCard.lean, 'card_holds'). Laid BY PROGRAM, IN A SANDBOX (cutbox-door.mjs). By AI agents, Wed Nov 11 2026. No macro, syntax, notation, axiom, sorry.
-/
import Derived.Test.YtiogmegdkfnkkaaDoorRows
import GoSem.ClaimSeven
namespace Go.Proofs.YtiogmegdkfnkkaaDoor
namespace Rows

/-- THE TIED CARD OF 'stetlaw20.RecordLooks'. -/
def recordLooksCard : Claim7 := { stood := { row := recordLooksRow, standIns := [], harness := (true, "5459de190508554839b673ffff7c32597176acd2bb8b5b2ebcefd3997a819c92"), looks := true }, kinds := [], alts := [], laidByText := true, laidKinds := [.data, .data, .data, .handle], laidTests := true, laidLooks := .later }
def RecordLooksCardSaid : Prop := Claim7.holds Tryd.pinned (.plain (OpenSpec.ofChange recordLooksSpec)) recordLooksCard

/-- THE TIED CARD OF 'stetlaw20.RecordBack'. -/
def recordBackCard : Claim7 := { stood := { row := recordBackRow, standIns := [], harness := (true, "5459de190508554839b673ffff7c32597176acd2bb8b5b2ebcefd3997a819c92"), looks := true }, kinds := [], alts := [], laidByText := true, laidKinds := [.data, .data, .data, .handle], laidTests := true, laidLooks := .later }
def RecordBackCardSaid : Prop := Claim7.holds Tryd.pinned (.plain (OpenSpec.ofChange recordBackSpec)) recordBackCard

/-- THE TIED CARD OF 'stetlaw20.RecordFresh'. -/
def recordFreshCard : Claim7 := { stood := { row := recordFreshRow, standIns := [], harness := (true, "5459de190508554839b673ffff7c32597176acd2bb8b5b2ebcefd3997a819c92"), looks := true }, kinds := [], alts := [], laidByText := true, laidKinds := [.data, .data, .data, .handle], laidTests := true, laidLooks := .later }
def RecordFreshCardSaid : Prop := Claim7.holds Tryd.pinned (.plain (OpenSpec.ofChange recordFreshSpec)) recordFreshCard

/-- THE TIED CARD OF 'stetlaw20.RecordPut'. -/
def recordPutCard : Claim7 := { stood := { row := recordPutRow, standIns := [], harness := (true, "5459de190508554839b673ffff7c32597176acd2bb8b5b2ebcefd3997a819c92"), looks := true }, kinds := [], alts := [], laidByText := true, laidKinds := [.data, .data, .data, .handle], laidTests := true, laidLooks := .later }
def RecordPutCardSaid : Prop := Claim7.holds Tryd.pinned (.plain (OpenSpec.ofChange recordPutSpec)) recordPutCard

/-- THE SECOND FORM's CARD OF 'stetlaw20.RecordLooks'. -/
def recordLooksUptoCard : Claim7 := { stood := { row := recordLooksUptoRow, standIns := [], harness := (true, "5459de190508554839b673ffff7c32597176acd2bb8b5b2ebcefd3997a819c92"), looks := true }, kinds := [], alts := [], laidByText := true, laidKinds := [.data, .data, .data, .handle], laidTests := true, laidLooks := .later }
def RecordLooksUptoCardSaid : Prop := Claim7.holds Tryd.pinned (.plain (OpenSpec.upto recordLooksSpec)) recordLooksUptoCard

/-- THE SECOND FORM's CARD OF 'stetlaw20.RecordBack'. -/
def recordBackUptoCard : Claim7 := { stood := { row := recordBackUptoRow, standIns := [], harness := (true, "5459de190508554839b673ffff7c32597176acd2bb8b5b2ebcefd3997a819c92"), looks := true }, kinds := [], alts := [], laidByText := true, laidKinds := [.data, .data, .data, .handle], laidTests := true, laidLooks := .later }
def RecordBackUptoCardSaid : Prop := Claim7.holds Tryd.pinned (.plain (OpenSpec.upto recordBackSpec)) recordBackUptoCard

/-- THE SECOND FORM's CARD OF 'stetlaw20.RecordFresh'. -/
def recordFreshUptoCard : Claim7 := { stood := { row := recordFreshUptoRow, standIns := [], harness := (true, "5459de190508554839b673ffff7c32597176acd2bb8b5b2ebcefd3997a819c92"), looks := true }, kinds := [], alts := [], laidByText := true, laidKinds := [.data, .data, .data, .handle], laidTests := true, laidLooks := .later }
def RecordFreshUptoCardSaid : Prop := Claim7.holds Tryd.pinned (.plain (OpenSpec.upto recordFreshSpec)) recordFreshUptoCard

/-- THE SECOND FORM's CARD OF 'stetlaw20.RecordPut'. -/
def recordPutUptoCard : Claim7 := { stood := { row := recordPutUptoRow, standIns := [], harness := (true, "5459de190508554839b673ffff7c32597176acd2bb8b5b2ebcefd3997a819c92"), looks := true }, kinds := [], alts := [], laidByText := true, laidKinds := [.data, .data, .data, .handle], laidTests := true, laidLooks := .later }
def RecordPutUptoCardSaid : Prop := Claim7.holds Tryd.pinned (.plain (OpenSpec.upto recordPutSpec)) recordPutUptoCard
end Rows
end Go.Proofs.YtiogmegdkfnkkaaDoor
