/-
  DERIVED. GIVEN WITH THE SEED: THE CARDS: each row of YtfhdpblkdgmnfaaGreatDoorRows.lean that lists a variable, with what it lists TIED to the program's text (the seventh form; the later family's looks); each row that meets fmt, with fmt's text TOLD by the authors' own Lean function (tested against real Go, not proved from fmt's source: count such statements apart). THE CARD IS WHAT COUNTS. Prove the row's statement (the work); the ties are given (YtfhdpblkdgmnfaaGreatDoorTie.lean); close each card by the builder's one call (the guide's Derived/Test/ToyasCard.lean, 'card_holds'). Laid BY PROGRAM, IN A SANDBOX (cutbox-door.mjs). By AI agents, Wed Nov 11 2026. No macro, syntax, notation, axiom, sorry.
-/
import Derived.Test.YtfhdpblkdgmnfaaGreatDoorRows
import GoSem.ClaimSeven
namespace Go.Proofs.YtfhdpblkdgmnfaaGreatDoor
namespace Rows

/-- THE TIED CARD OF 'swashplatetop.TopRested'. -/
def topRestedCard : Claim7 := { stood := { row := topRestedRow, standIns := [], harness := (true, "7ceb8a84e94ccdde0462e6fe35b25ebfd7855b14fdac428e5c7a4ef4a512fdbe"), looks := false }, kinds := [], alts := [], laidByText := true, laidKinds := [.data, .data], laidTests := true, laidLooks := .later }
def TopRestedCardSaid : Prop := Claim7.holds Tryz.pinned (.plain (OpenSpec.ofChange topRestedSpec)) topRestedCard

/-- THE TIED CARD OF 'swashplatelaw11.FleetParts'. -/
def fleetPartsCard : Claim7 := { stood := { row := fleetPartsRow, standIns := [], harness := (true, "7ceb8a84e94ccdde0462e6fe35b25ebfd7855b14fdac428e5c7a4ef4a512fdbe"), looks := false }, kinds := [], alts := [], laidByText := true, laidKinds := [.data, .data], laidTests := true, laidLooks := .later }
def FleetPartsCardSaid : Prop := Claim7.holds Tryz.pinned (.plain (OpenSpec.ofChange fleetPartsSpec)) fleetPartsCard

/-- THE TIED CARD OF 'swashplatelaw11.FleetCrews'. -/
def fleetCrewsCard : Claim7 := { stood := { row := fleetCrewsRow, standIns := [], harness := (true, "7ceb8a84e94ccdde0462e6fe35b25ebfd7855b14fdac428e5c7a4ef4a512fdbe"), looks := false }, kinds := [], alts := [], laidByText := true, laidKinds := [.data, .data], laidTests := true, laidLooks := .later }
def FleetCrewsCardSaid : Prop := Claim7.holds Tryz.pinned (.plain (OpenSpec.ofChange fleetCrewsSpec)) fleetCrewsCard

/-- THE TIED CARD OF 'swashplatelaw11.FleetCover'. -/
def fleetCoverCard : Claim7 := { stood := { row := fleetCoverRow, standIns := [], harness := (true, "7ceb8a84e94ccdde0462e6fe35b25ebfd7855b14fdac428e5c7a4ef4a512fdbe"), looks := false }, kinds := [], alts := [], laidByText := true, laidKinds := [.data, .data], laidTests := true, laidLooks := .later }
def FleetCoverCardSaid : Prop := Claim7.holds Tryz.pinned (.plain (OpenSpec.ofChange fleetCoverSpec)) fleetCoverCard

/-- THE SECOND FORM's CARD OF 'swashplatetop.TopRested'. -/
def topRestedUptoCard : Claim7 := { stood := { row := topRestedUptoRow, standIns := [], harness := (true, "7ceb8a84e94ccdde0462e6fe35b25ebfd7855b14fdac428e5c7a4ef4a512fdbe"), looks := false }, kinds := [], alts := [], laidByText := true, laidKinds := [.data, .data], laidTests := true, laidLooks := .later }
def TopRestedUptoCardSaid : Prop := Claim7.holds Tryz.pinned (.plain (OpenSpec.upto topRestedSpec)) topRestedUptoCard

/-- THE SECOND FORM's CARD OF 'swashplatelaw11.FleetParts'. -/
def fleetPartsUptoCard : Claim7 := { stood := { row := fleetPartsUptoRow, standIns := [], harness := (true, "7ceb8a84e94ccdde0462e6fe35b25ebfd7855b14fdac428e5c7a4ef4a512fdbe"), looks := false }, kinds := [], alts := [], laidByText := true, laidKinds := [.data, .data], laidTests := true, laidLooks := .later }
def FleetPartsUptoCardSaid : Prop := Claim7.holds Tryz.pinned (.plain (OpenSpec.upto fleetPartsSpec)) fleetPartsUptoCard

/-- THE SECOND FORM's CARD OF 'swashplatelaw11.FleetCrews'. -/
def fleetCrewsUptoCard : Claim7 := { stood := { row := fleetCrewsUptoRow, standIns := [], harness := (true, "7ceb8a84e94ccdde0462e6fe35b25ebfd7855b14fdac428e5c7a4ef4a512fdbe"), looks := false }, kinds := [], alts := [], laidByText := true, laidKinds := [.data, .data], laidTests := true, laidLooks := .later }
def FleetCrewsUptoCardSaid : Prop := Claim7.holds Tryz.pinned (.plain (OpenSpec.upto fleetCrewsSpec)) fleetCrewsUptoCard

/-- THE SECOND FORM's CARD OF 'swashplatelaw11.FleetCover'. -/
def fleetCoverUptoCard : Claim7 := { stood := { row := fleetCoverUptoRow, standIns := [], harness := (true, "7ceb8a84e94ccdde0462e6fe35b25ebfd7855b14fdac428e5c7a4ef4a512fdbe"), looks := false }, kinds := [], alts := [], laidByText := true, laidKinds := [.data, .data], laidTests := true, laidLooks := .later }
def FleetCoverUptoCardSaid : Prop := Claim7.holds Tryz.pinned (.plain (OpenSpec.upto fleetCoverSpec)) fleetCoverUptoCard
end Rows
end Go.Proofs.YtfhdpblkdgmnfaaGreatDoor
