/-
  DERIVED. GIVEN WITH THE SEED: THE CARDS: each row of YtmgfbmkfgbildaaDoorRows.lean that lists a variable, with what it lists TIED to the program's text (the seventh form; the later family's looks); each row that meets fmt, with fmt's text TOLD by the authors' own Lean function (tested against real Go, not proved from fmt's source: count such statements apart). THE CARD IS WHAT COUNTS. Prove the row's statement (the work); the ties are given (YtmgfbmkfgbildaaDoorTie.lean); close each card by the builder's one call (the guide's Derived/Test/ToyasCard.lean, 'card_holds'). Laid BY PROGRAM, IN A SANDBOX (cutbox-door.mjs). By AI agents, Wed Nov 11 2026. No macro, syntax, notation, axiom, sorry.
-/
import Derived.Test.YtmgfbmkfgbildaaDoorRows
import GoSem.ClaimSeven
namespace Go.Proofs.YtmgfbmkfgbildaaDoor
namespace Rows

/-- THE TIED CARD OF 'stetlaw03.WireTells'. -/
def wireTellsCard : Claim7 := { stood := { row := wireTellsRow, standIns := [], harness := (true, "e4eee9f693ddc9e8e58ef8c95a03ee98f5cdb1ab03b25e0c377bdb9f1f754881"), looks := true }, kinds := [], alts := [], laidByText := true, laidKinds := [.data, .data, .data, .handle], laidTests := true, laidLooks := .later }
def WireTellsCardSaid : Prop := Claim7.holds Tryd.pinned (.plain (OpenSpec.ofChange wireTellsSpec)) wireTellsCard

/-- THE TIED CARD OF 'stetlaw03.WireFiles'. -/
def wireFilesCard : Claim7 := { stood := { row := wireFilesRow, standIns := [], harness := (true, "e4eee9f693ddc9e8e58ef8c95a03ee98f5cdb1ab03b25e0c377bdb9f1f754881"), looks := true }, kinds := [], alts := [], laidByText := true, laidKinds := [.data, .data, .data, .handle], laidTests := true, laidLooks := .later }
def WireFilesCardSaid : Prop := Claim7.holds Tryd.pinned (.plain (OpenSpec.ofChange wireFilesSpec)) wireFilesCard

/-- THE TIED CARD OF 'stetlaw03.WireBack'. -/
def wireBackCard : Claim7 := { stood := { row := wireBackRow, standIns := [], harness := (true, "e4eee9f693ddc9e8e58ef8c95a03ee98f5cdb1ab03b25e0c377bdb9f1f754881"), looks := true }, kinds := [], alts := [], laidByText := true, laidKinds := [.data, .data, .data, .handle], laidTests := true, laidLooks := .later }
def WireBackCardSaid : Prop := Claim7.holds Tryd.pinned (.plain (OpenSpec.ofChange wireBackSpec)) wireBackCard

/-- THE TIED CARD OF 'stetlaw03.WireOnce'. -/
def wireOnceCard : Claim7 := { stood := { row := wireOnceRow, standIns := [], harness := (true, "e4eee9f693ddc9e8e58ef8c95a03ee98f5cdb1ab03b25e0c377bdb9f1f754881"), looks := true }, kinds := [], alts := [], laidByText := true, laidKinds := [.data, .data, .data, .handle], laidTests := true, laidLooks := .later }
def WireOnceCardSaid : Prop := Claim7.holds Tryd.pinned (.plain (OpenSpec.ofChange wireOnceSpec)) wireOnceCard

/-- THE TIED CARD OF 'stetlaw03.WireMaps'. -/
def wireMapsCard : Claim7 := { stood := { row := wireMapsRow, standIns := [], harness := (true, "e4eee9f693ddc9e8e58ef8c95a03ee98f5cdb1ab03b25e0c377bdb9f1f754881"), looks := true }, kinds := [], alts := [], laidByText := true, laidKinds := [.data, .data, .data, .handle], laidTests := true, laidLooks := .later }
def WireMapsCardSaid : Prop := Claim7.holds Tryd.pinned (.plain (OpenSpec.ofChange wireMapsSpec)) wireMapsCard

/-- THE TIED CARD OF 'stetlaw03.WireMost'. -/
def wireMostCard : Claim7 := { stood := { row := wireMostRow, standIns := [], harness := (true, "e4eee9f693ddc9e8e58ef8c95a03ee98f5cdb1ab03b25e0c377bdb9f1f754881"), looks := true }, kinds := [], alts := [], laidByText := true, laidKinds := [.data, .data, .data, .handle], laidTests := true, laidLooks := .later }
def WireMostCardSaid : Prop := Claim7.holds Tryd.pinned (.plain (OpenSpec.ofChange wireMostSpec)) wireMostCard

/-- THE SECOND FORM's CARD OF 'stetlaw03.WireTells'. -/
def wireTellsUptoCard : Claim7 := { stood := { row := wireTellsUptoRow, standIns := [], harness := (true, "e4eee9f693ddc9e8e58ef8c95a03ee98f5cdb1ab03b25e0c377bdb9f1f754881"), looks := true }, kinds := [], alts := [], laidByText := true, laidKinds := [.data, .data, .data, .handle], laidTests := true, laidLooks := .later }
def WireTellsUptoCardSaid : Prop := Claim7.holds Tryd.pinned (.plain (OpenSpec.upto wireTellsSpec)) wireTellsUptoCard

/-- THE SECOND FORM's CARD OF 'stetlaw03.WireFiles'. -/
def wireFilesUptoCard : Claim7 := { stood := { row := wireFilesUptoRow, standIns := [], harness := (true, "e4eee9f693ddc9e8e58ef8c95a03ee98f5cdb1ab03b25e0c377bdb9f1f754881"), looks := true }, kinds := [], alts := [], laidByText := true, laidKinds := [.data, .data, .data, .handle], laidTests := true, laidLooks := .later }
def WireFilesUptoCardSaid : Prop := Claim7.holds Tryd.pinned (.plain (OpenSpec.upto wireFilesSpec)) wireFilesUptoCard

/-- THE SECOND FORM's CARD OF 'stetlaw03.WireBack'. -/
def wireBackUptoCard : Claim7 := { stood := { row := wireBackUptoRow, standIns := [], harness := (true, "e4eee9f693ddc9e8e58ef8c95a03ee98f5cdb1ab03b25e0c377bdb9f1f754881"), looks := true }, kinds := [], alts := [], laidByText := true, laidKinds := [.data, .data, .data, .handle], laidTests := true, laidLooks := .later }
def WireBackUptoCardSaid : Prop := Claim7.holds Tryd.pinned (.plain (OpenSpec.upto wireBackSpec)) wireBackUptoCard

/-- THE SECOND FORM's CARD OF 'stetlaw03.WireOnce'. -/
def wireOnceUptoCard : Claim7 := { stood := { row := wireOnceUptoRow, standIns := [], harness := (true, "e4eee9f693ddc9e8e58ef8c95a03ee98f5cdb1ab03b25e0c377bdb9f1f754881"), looks := true }, kinds := [], alts := [], laidByText := true, laidKinds := [.data, .data, .data, .handle], laidTests := true, laidLooks := .later }
def WireOnceUptoCardSaid : Prop := Claim7.holds Tryd.pinned (.plain (OpenSpec.upto wireOnceSpec)) wireOnceUptoCard

/-- THE SECOND FORM's CARD OF 'stetlaw03.WireMaps'. -/
def wireMapsUptoCard : Claim7 := { stood := { row := wireMapsUptoRow, standIns := [], harness := (true, "e4eee9f693ddc9e8e58ef8c95a03ee98f5cdb1ab03b25e0c377bdb9f1f754881"), looks := true }, kinds := [], alts := [], laidByText := true, laidKinds := [.data, .data, .data, .handle], laidTests := true, laidLooks := .later }
def WireMapsUptoCardSaid : Prop := Claim7.holds Tryd.pinned (.plain (OpenSpec.upto wireMapsSpec)) wireMapsUptoCard

/-- THE SECOND FORM's CARD OF 'stetlaw03.WireMost'. -/
def wireMostUptoCard : Claim7 := { stood := { row := wireMostUptoRow, standIns := [], harness := (true, "e4eee9f693ddc9e8e58ef8c95a03ee98f5cdb1ab03b25e0c377bdb9f1f754881"), looks := true }, kinds := [], alts := [], laidByText := true, laidKinds := [.data, .data, .data, .handle], laidTests := true, laidLooks := .later }
def WireMostUptoCardSaid : Prop := Claim7.holds Tryd.pinned (.plain (OpenSpec.upto wireMostSpec)) wireMostUptoCard
end Rows
end Go.Proofs.YtmgfbmkfgbildaaDoor
