/-
  DERIVED. GIVEN WITH THE SEED: THE CARDS: each row of YtnmkdhoijdoccaaDoorRows.lean that lists a variable, with what it lists TIED to the program's text (the seventh form; the later family's looks); each row that meets fmt, with fmt's text TOLD by the authors' own Lean function (tested against real Go, not proved from fmt's source: count such statements apart). THE CARD IS WHAT COUNTS. Prove the row's statement (the work); the ties are given (YtnmkdhoijdoccaaDoorTie.lean); close each card by the builder's one call (the guide's Derived/Test/ToyasCard.lean, 'card_holds'). Laid BY PROGRAM, IN A SANDBOX (cutbox-door.mjs). By AI agents, Wed Nov 11 2026. No macro, syntax, notation, axiom, sorry.
-/
import Derived.Test.YtnmkdhoijdoccaaDoorRows
import GoSem.ClaimSeven
namespace Go.Proofs.YtnmkdhoijdoccaaDoor
namespace Rows

/-- THE TIED CARD OF 'cadencelaw02.CnfTidies'. -/
def cnfTidiesCard : Claim7 := { stood := { row := cnfTidiesRow, standIns := [], harness := (true, "ceac16d6a29e0157213ff6aad5c3979b966033183a2fe61f477e9927857a4dc2"), looks := false }, kinds := [], alts := [], laidByText := true, laidKinds := [.data, .data, .data], laidTests := true, laidLooks := .later }
def CnfTidiesCardSaid : Prop := Claim7.holds Tryd.pinned (.plain (OpenSpec.ofChange cnfTidiesSpec)) cnfTidiesCard

/-- THE TIED CARD OF 'cadencelaw02.CnfSame'. -/
def cnfSameCard : Claim7 := { stood := { row := cnfSameRow, standIns := [], harness := (true, "ceac16d6a29e0157213ff6aad5c3979b966033183a2fe61f477e9927857a4dc2"), looks := false }, kinds := [], alts := [], laidByText := true, laidKinds := [.data, .data, .data], laidTests := true, laidLooks := .later }
def CnfSameCardSaid : Prop := Claim7.holds Tryd.pinned (.plain (OpenSpec.ofChange cnfSameSpec)) cnfSameCard

/-- THE TIED CARD OF 'cadencelaw02.CnfEliminates'. -/
def cnfEliminatesCard : Claim7 := { stood := { row := cnfEliminatesRow, standIns := [], harness := (true, "ceac16d6a29e0157213ff6aad5c3979b966033183a2fe61f477e9927857a4dc2"), looks := false }, kinds := [], alts := [], laidByText := true, laidKinds := [.data, .data, .data], laidTests := true, laidLooks := .later }
def CnfEliminatesCardSaid : Prop := Claim7.holds Tryd.pinned (.plain (OpenSpec.ofChange cnfEliminatesSpec)) cnfEliminatesCard

/-- THE TIED CARD OF 'cadencelaw02.CnfPrints'. -/
def cnfPrintsCard : Claim7 := { stood := { row := cnfPrintsRow, standIns := [], harness := (true, "ceac16d6a29e0157213ff6aad5c3979b966033183a2fe61f477e9927857a4dc2"), looks := false }, kinds := [], alts := [], laidByText := true, laidKinds := [.data, .data, .data], laidTests := true, laidLooks := .later }
def CnfPrintsCardSaid : Prop := Claim7.holds Tryd.pinned (.plain (OpenSpec.ofChange cnfPrintsSpec)) cnfPrintsCard

/-- THE TIED CARD OF 'cadencelaw02.CnfProjects'. -/
def cnfProjectsCard : Claim7 := { stood := { row := cnfProjectsRow, standIns := [], harness := (true, "ceac16d6a29e0157213ff6aad5c3979b966033183a2fe61f477e9927857a4dc2"), looks := false }, kinds := [], alts := [], laidByText := true, laidKinds := [.data, .data, .data], laidTests := true, laidLooks := .later }
def CnfProjectsCardSaid : Prop := Claim7.holds Tryd.pinned (.plain (OpenSpec.ofChange cnfProjectsSpec)) cnfProjectsCard

/-- THE TIED CARD OF 'cadencelaw02.CnfFresh'. -/
def cnfFreshCard : Claim7 := { stood := { row := cnfFreshRow, standIns := [], harness := (true, "ceac16d6a29e0157213ff6aad5c3979b966033183a2fe61f477e9927857a4dc2"), looks := false }, kinds := [], alts := [], laidByText := true, laidKinds := [.data, .data, .data], laidTests := true, laidLooks := .later }
def CnfFreshCardSaid : Prop := Claim7.holds Tryd.pinned (.plain (OpenSpec.ofChange cnfFreshSpec)) cnfFreshCard

/-- THE TIED CARD OF 'cadencelaw02.CnfBack'. -/
def cnfBackCard : Claim7 := { stood := { row := cnfBackRow, standIns := [], harness := (true, "ceac16d6a29e0157213ff6aad5c3979b966033183a2fe61f477e9927857a4dc2"), looks := false }, kinds := [], alts := [], laidByText := true, laidKinds := [.data, .data, .data], laidTests := true, laidLooks := .later }
def CnfBackCardSaid : Prop := Claim7.holds Tryd.pinned (.plain (OpenSpec.ofChange cnfBackSpec)) cnfBackCard

/-- THE SECOND FORM's CARD OF 'cadencelaw02.CnfTidies'. -/
def cnfTidiesUptoCard : Claim7 := { stood := { row := cnfTidiesUptoRow, standIns := [], harness := (true, "ceac16d6a29e0157213ff6aad5c3979b966033183a2fe61f477e9927857a4dc2"), looks := false }, kinds := [], alts := [], laidByText := true, laidKinds := [.data, .data, .data], laidTests := true, laidLooks := .later }
def CnfTidiesUptoCardSaid : Prop := Claim7.holds Tryd.pinned (.plain (OpenSpec.upto cnfTidiesSpec)) cnfTidiesUptoCard

/-- THE SECOND FORM's CARD OF 'cadencelaw02.CnfSame'. -/
def cnfSameUptoCard : Claim7 := { stood := { row := cnfSameUptoRow, standIns := [], harness := (true, "ceac16d6a29e0157213ff6aad5c3979b966033183a2fe61f477e9927857a4dc2"), looks := false }, kinds := [], alts := [], laidByText := true, laidKinds := [.data, .data, .data], laidTests := true, laidLooks := .later }
def CnfSameUptoCardSaid : Prop := Claim7.holds Tryd.pinned (.plain (OpenSpec.upto cnfSameSpec)) cnfSameUptoCard

/-- THE SECOND FORM's CARD OF 'cadencelaw02.CnfEliminates'. -/
def cnfEliminatesUptoCard : Claim7 := { stood := { row := cnfEliminatesUptoRow, standIns := [], harness := (true, "ceac16d6a29e0157213ff6aad5c3979b966033183a2fe61f477e9927857a4dc2"), looks := false }, kinds := [], alts := [], laidByText := true, laidKinds := [.data, .data, .data], laidTests := true, laidLooks := .later }
def CnfEliminatesUptoCardSaid : Prop := Claim7.holds Tryd.pinned (.plain (OpenSpec.upto cnfEliminatesSpec)) cnfEliminatesUptoCard

/-- THE SECOND FORM's CARD OF 'cadencelaw02.CnfPrints'. -/
def cnfPrintsUptoCard : Claim7 := { stood := { row := cnfPrintsUptoRow, standIns := [], harness := (true, "ceac16d6a29e0157213ff6aad5c3979b966033183a2fe61f477e9927857a4dc2"), looks := false }, kinds := [], alts := [], laidByText := true, laidKinds := [.data, .data, .data], laidTests := true, laidLooks := .later }
def CnfPrintsUptoCardSaid : Prop := Claim7.holds Tryd.pinned (.plain (OpenSpec.upto cnfPrintsSpec)) cnfPrintsUptoCard

/-- THE SECOND FORM's CARD OF 'cadencelaw02.CnfProjects'. -/
def cnfProjectsUptoCard : Claim7 := { stood := { row := cnfProjectsUptoRow, standIns := [], harness := (true, "ceac16d6a29e0157213ff6aad5c3979b966033183a2fe61f477e9927857a4dc2"), looks := false }, kinds := [], alts := [], laidByText := true, laidKinds := [.data, .data, .data], laidTests := true, laidLooks := .later }
def CnfProjectsUptoCardSaid : Prop := Claim7.holds Tryd.pinned (.plain (OpenSpec.upto cnfProjectsSpec)) cnfProjectsUptoCard

/-- THE SECOND FORM's CARD OF 'cadencelaw02.CnfFresh'. -/
def cnfFreshUptoCard : Claim7 := { stood := { row := cnfFreshUptoRow, standIns := [], harness := (true, "ceac16d6a29e0157213ff6aad5c3979b966033183a2fe61f477e9927857a4dc2"), looks := false }, kinds := [], alts := [], laidByText := true, laidKinds := [.data, .data, .data], laidTests := true, laidLooks := .later }
def CnfFreshUptoCardSaid : Prop := Claim7.holds Tryd.pinned (.plain (OpenSpec.upto cnfFreshSpec)) cnfFreshUptoCard

/-- THE SECOND FORM's CARD OF 'cadencelaw02.CnfBack'. -/
def cnfBackUptoCard : Claim7 := { stood := { row := cnfBackUptoRow, standIns := [], harness := (true, "ceac16d6a29e0157213ff6aad5c3979b966033183a2fe61f477e9927857a4dc2"), looks := false }, kinds := [], alts := [], laidByText := true, laidKinds := [.data, .data, .data], laidTests := true, laidLooks := .later }
def CnfBackUptoCardSaid : Prop := Claim7.holds Tryd.pinned (.plain (OpenSpec.upto cnfBackSpec)) cnfBackUptoCard
end Rows
end Go.Proofs.YtnmkdhoijdoccaaDoor
