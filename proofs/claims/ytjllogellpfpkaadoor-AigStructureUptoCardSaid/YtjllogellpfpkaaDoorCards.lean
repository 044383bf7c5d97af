/-
  DERIVED. GIVEN WITH THE SEED: THE CARDS: each row of YtjllogellpfpkaaDoorRows.lean that lists a variable, with what it lists TIED to the program's text (the seventh form; the later family's looks); each row that meets fmt, with fmt's text TOLD by the authors' own Lean function (tested against real Go, not proved from fmt's source: count such statements apart). THE CARD IS WHAT COUNTS. Prove the row's statement (the work); the ties are given (YtjllogellpfpkaaDoorTie.lean); close each card by the builder's one call (the guide's Derived/Test/ToyasCard.lean, 'card_holds'). Laid BY PROGRAM, IN A SANDBOX (cutbox-door.mjs). By AI agents, Wed Nov 11 2026. No macro, syntax, notation, axiom, sorry.
-/
import Derived.Test.YtjllogellpfpkaaDoorRows
import GoSem.ClaimSeven
namespace Go.Proofs.YtjllogellpfpkaaDoor
namespace Rows

/-- THE TIED CARD OF 'cadencelaw10.AigStructure'. -/
def aigStructureCard : Claim7 := { stood := { row := aigStructureRow, standIns := [], harness := (true, "a23955278da58b1a260015a32d11f667f7417a0ccbf4fe987a7d6eb8dc1a95a9"), looks := true }, kinds := [], alts := [], laidByText := true, laidKinds := [.data, .data, .data], laidTests := true, laidLooks := .later }
def AigStructureCardSaid : Prop := Claim7.holds Tryd.pinned (.plain (OpenSpec.ofChange aigStructureSpec)) aigStructureCard

/-- THE TIED CARD OF 'cadencelaw10.AigLays'. -/
def aigLaysCard : Claim7 := { stood := { row := aigLaysRow, standIns := [], harness := (true, "a23955278da58b1a260015a32d11f667f7417a0ccbf4fe987a7d6eb8dc1a95a9"), looks := true }, kinds := [], alts := [], laidByText := true, laidKinds := [.data, .data, .data], laidTests := true, laidLooks := .later }
def AigLaysCardSaid : Prop := Claim7.holds Tryd.pinned (.plain (OpenSpec.ofChange aigLaysSpec)) aigLaysCard

/-- THE TIED CARD OF 'cadencelaw10.AigParses'. -/
def aigParsesCard : Claim7 := { stood := { row := aigParsesRow, standIns := [], harness := (true, "a23955278da58b1a260015a32d11f667f7417a0ccbf4fe987a7d6eb8dc1a95a9"), looks := true }, kinds := [], alts := [], laidByText := true, laidKinds := [.data, .pinned], laidTests := true, laidLooks := .later }
def AigParsesCardSaid : Prop := Claim7.holds Tryd.pinned (.plain (OpenSpec.ofChange aigParsesSpec)) aigParsesCard

/-- THE TIED CARD OF 'cadencelaw10.AigPlays'. -/
def aigPlaysCard : Claim7 := { stood := { row := aigPlaysRow, standIns := [], harness := (true, "a23955278da58b1a260015a32d11f667f7417a0ccbf4fe987a7d6eb8dc1a95a9"), looks := true }, kinds := [], alts := [], laidByText := true, laidKinds := [.data, .data, .data], laidTests := true, laidLooks := .later }
def AigPlaysCardSaid : Prop := Claim7.holds Tryd.pinned (.plain (OpenSpec.ofChange aigPlaysSpec)) aigPlaysCard

/-- THE TIED CARD OF 'cadencelaw10.AigNils'. -/
def aigNilsCard : Claim7 := { stood := { row := aigNilsRow, standIns := [], harness := (true, "a23955278da58b1a260015a32d11f667f7417a0ccbf4fe987a7d6eb8dc1a95a9"), looks := true }, kinds := [], alts := [], laidByText := true, laidKinds := [.data, .data, .data], laidTests := true, laidLooks := .later }
def AigNilsCardSaid : Prop := Claim7.holds Tryd.pinned (.plain (OpenSpec.ofChange aigNilsSpec)) aigNilsCard

/-- THE TIED CARD OF 'cadencelaw10.AigBack'. -/
def aigBackCard : Claim7 := { stood := { row := aigBackRow, standIns := [], harness := (true, "a23955278da58b1a260015a32d11f667f7417a0ccbf4fe987a7d6eb8dc1a95a9"), looks := true }, kinds := [], alts := [], laidByText := true, laidKinds := [.data, .data, .data, .data, .pinned], laidTests := true, laidLooks := .later }
def AigBackCardSaid : Prop := Claim7.holds Tryd.pinned (.plain (OpenSpec.ofChange aigBackSpec)) aigBackCard

/-- THE SECOND FORM's CARD OF 'cadencelaw10.AigStructure'. -/
def aigStructureUptoCard : Claim7 := { stood := { row := aigStructureUptoRow, standIns := [], harness := (true, "a23955278da58b1a260015a32d11f667f7417a0ccbf4fe987a7d6eb8dc1a95a9"), looks := true }, kinds := [], alts := [], laidByText := true, laidKinds := [.data, .data, .data], laidTests := true, laidLooks := .later }
def AigStructureUptoCardSaid : Prop := Claim7.holds Tryd.pinned (.plain (OpenSpec.upto aigStructureSpec)) aigStructureUptoCard

/-- THE SECOND FORM's CARD OF 'cadencelaw10.AigLays'. -/
def aigLaysUptoCard : Claim7 := { stood := { row := aigLaysUptoRow, standIns := [], harness := (true, "a23955278da58b1a260015a32d11f667f7417a0ccbf4fe987a7d6eb8dc1a95a9"), looks := true }, kinds := [], alts := [], laidByText := true, laidKinds := [.data, .data, .data], laidTests := true, laidLooks := .later }
def AigLaysUptoCardSaid : Prop := Claim7.holds Tryd.pinned (.plain (OpenSpec.upto aigLaysSpec)) aigLaysUptoCard

/-- THE SECOND FORM's CARD OF 'cadencelaw10.AigParses'. -/
def aigParsesUptoCard : Claim7 := { stood := { row := aigParsesUptoRow, standIns := [], harness := (true, "a23955278da58b1a260015a32d11f667f7417a0ccbf4fe987a7d6eb8dc1a95a9"), looks := true }, kinds := [], alts := [], laidByText := true, laidKinds := [.data, .pinned], laidTests := true, laidLooks := .later }
def AigParsesUptoCardSaid : Prop := Claim7.holds Tryd.pinned (.plain (OpenSpec.upto aigParsesSpec)) aigParsesUptoCard

/-- THE SECOND FORM's CARD OF 'cadencelaw10.AigPlays'. -/
def aigPlaysUptoCard : Claim7 := { stood := { row := aigPlaysUptoRow, standIns := [], harness := (true, "a23955278da58b1a260015a32d11f667f7417a0ccbf4fe987a7d6eb8dc1a95a9"), looks := true }, kinds := [], alts := [], laidByText := true, laidKinds := [.data, .data, .data], laidTests := true, laidLooks := .later }
def AigPlaysUptoCardSaid : Prop := Claim7.holds Tryd.pinned (.plain (OpenSpec.upto aigPlaysSpec)) aigPlaysUptoCard

/-- THE SECOND FORM's CARD OF 'cadencelaw10.AigNils'. -/
def aigNilsUptoCard : Claim7 := { stood := { row := aigNilsUptoRow, standIns := [], harness := (true, "a23955278da58b1a260015a32d11f667f7417a0ccbf4fe987a7d6eb8dc1a95a9"), looks := true }, kinds := [], alts := [], laidByText := true, laidKinds := [.data, .data, .data], laidTests := true, laidLooks := .later }
def AigNilsUptoCardSaid : Prop := Claim7.holds Tryd.pinned (.plain (OpenSpec.upto aigNilsSpec)) aigNilsUptoCard

/-- THE SECOND FORM's CARD OF 'cadencelaw10.AigBack'. -/
def aigBackUptoCard : Claim7 := { stood := { row := aigBackUptoRow, standIns := [], harness := (true, "a23955278da58b1a260015a32d11f667f7417a0ccbf4fe987a7d6eb8dc1a95a9"), looks := true }, kinds := [], alts := [], laidByText := true, laidKinds := [.data, .data, .data, .data, .pinned], laidTests := true, laidLooks := .later }
def AigBackUptoCardSaid : Prop := Claim7.holds Tryd.pinned (.plain (OpenSpec.upto aigBackSpec)) aigBackUptoCard
end Rows
end Go.Proofs.YtjllogellpfpkaaDoor
