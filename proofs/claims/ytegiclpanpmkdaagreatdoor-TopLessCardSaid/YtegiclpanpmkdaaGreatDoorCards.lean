/-
  DERIVED. GIVEN WITH THE SEED: THE CARDS: each row of YtegiclpanpmkdaaGreatDoorRows.lean that lists a variable, with what it lists TIED to the program's text (the seventh form; the later family's looks); each row that meets fmt, with fmt's text TOLD by the authors' own Lean function (tested against real Go, not proved from fmt's source: count such statements apart). THE CARD IS WHAT COUNTS. Prove the row's statement (the work); the ties are given (YtegiclpanpmkdaaGreatDoorTie.lean); close each card by the builder's one call (the guide's Derived/Test/ToyasCard.lean, 'card_holds'). Laid BY PROGRAM, IN A SANDBOX (cutbox-door.mjs). By AI agents, Wed Nov 11 2026. No macro, syntax, notation, axiom, sorry.
-/
import Derived.Test.YtegiclpanpmkdaaGreatDoorRows
import GoSem.ClaimSeven
namespace Go.Proofs.YtegiclpanpmkdaaGreatDoor
namespace Rows

/-- THE TIED CARD OF 'swashplatelaw11.FleetBegins'. -/
def fleetBeginsCard : Claim7 := { stood := { row := fleetBeginsRow, standIns := [], harness := (true, "634d0afb0a639d2f8ec1a9f2f6c23583c7ae9f3523da44fbcf5990d4c3363363"), looks := false }, kinds := [], alts := [], laidByText := true, laidKinds := [.data, .data], laidTests := true, laidLooks := .later }
def FleetBeginsCardSaid : Prop := Claim7.holds Tryz.pinned (.plain (OpenSpec.ofChange fleetBeginsSpec)) fleetBeginsCard

/-- THE TIED CARD OF 'swashplatelaw11.FleetOpen'. -/
def fleetOpenCard : Claim7 := { stood := { row := fleetOpenRow, standIns := [], harness := (true, "634d0afb0a639d2f8ec1a9f2f6c23583c7ae9f3523da44fbcf5990d4c3363363"), looks := false }, kinds := [], alts := [], laidByText := true, laidKinds := [.data, .data], laidTests := true, laidLooks := .later }
def FleetOpenCardSaid : Prop := Claim7.holds Tryz.pinned (.plain (OpenSpec.ofChange fleetOpenSpec)) fleetOpenCard

/-- THE TIED CARD OF 'swashplatelaw11.FleetGap'. -/
def fleetGapCard : Claim7 := { stood := { row := fleetGapRow, standIns := [], harness := (true, "634d0afb0a639d2f8ec1a9f2f6c23583c7ae9f3523da44fbcf5990d4c3363363"), looks := false }, kinds := [], alts := [], laidByText := true, laidKinds := [.data, .data], laidTests := true, laidLooks := .later }
def FleetGapCardSaid : Prop := Claim7.holds Tryz.pinned (.plain (OpenSpec.ofChange fleetGapSpec)) fleetGapCard

/-- THE TIED CARD OF 'swashplatelaw11.FleetAnew'. -/
def fleetAnewCard : Claim7 := { stood := { row := fleetAnewRow, standIns := [], harness := (true, "634d0afb0a639d2f8ec1a9f2f6c23583c7ae9f3523da44fbcf5990d4c3363363"), looks := false }, kinds := [], alts := [], laidByText := true, laidKinds := [.data, .data], laidTests := true, laidLooks := .later }
def FleetAnewCardSaid : Prop := Claim7.holds Tryz.pinned (.plain (OpenSpec.ofChange fleetAnewSpec)) fleetAnewCard

/-- THE TIED CARD OF 'swashplatetop.TopFog'. -/
def topFogCard : Claim7 := { stood := { row := topFogRow, standIns := [], harness := (true, "634d0afb0a639d2f8ec1a9f2f6c23583c7ae9f3523da44fbcf5990d4c3363363"), looks := false }, kinds := [], alts := [], laidByText := true, laidKinds := [.data, .data], laidTests := true, laidLooks := .later }
def TopFogCardSaid : Prop := Claim7.holds Tryz.pinned (.plain (OpenSpec.ofChange topFogSpec)) topFogCard

/-- THE TIED CARD OF 'swashplatetop.TopFlown'. -/
def topFlownCard : Claim7 := { stood := { row := topFlownRow, standIns := [], harness := (true, "634d0afb0a639d2f8ec1a9f2f6c23583c7ae9f3523da44fbcf5990d4c3363363"), looks := false }, kinds := [], alts := [], laidByText := true, laidKinds := [.data, .data], laidTests := true, laidLooks := .later }
def TopFlownCardSaid : Prop := Claim7.holds Tryz.pinned (.plain (OpenSpec.ofChange topFlownSpec)) topFlownCard

/-- THE TIED CARD OF 'swashplatetop.TopLess'. -/
def topLessCard : Claim7 := { stood := { row := topLessRow, standIns := [], harness := (true, "634d0afb0a639d2f8ec1a9f2f6c23583c7ae9f3523da44fbcf5990d4c3363363"), looks := false }, kinds := [], alts := [], laidByText := true, laidKinds := [.data, .data], laidTests := true, laidLooks := .later }
def TopLessCardSaid : Prop := Claim7.holds Tryz.pinned (.plain (OpenSpec.ofChange topLessSpec)) topLessCard

/-- THE SECOND FORM's CARD OF 'swashplatelaw11.FleetBegins'. -/
def fleetBeginsUptoCard : Claim7 := { stood := { row := fleetBeginsUptoRow, standIns := [], harness := (true, "634d0afb0a639d2f8ec1a9f2f6c23583c7ae9f3523da44fbcf5990d4c3363363"), looks := false }, kinds := [], alts := [], laidByText := true, laidKinds := [.data, .data], laidTests := true, laidLooks := .later }
def FleetBeginsUptoCardSaid : Prop := Claim7.holds Tryz.pinned (.plain (OpenSpec.upto fleetBeginsSpec)) fleetBeginsUptoCard

/-- THE SECOND FORM's CARD OF 'swashplatelaw11.FleetOpen'. -/
def fleetOpenUptoCard : Claim7 := { stood := { row := fleetOpenUptoRow, standIns := [], harness := (true, "634d0afb0a639d2f8ec1a9f2f6c23583c7ae9f3523da44fbcf5990d4c3363363"), looks := false }, kinds := [], alts := [], laidByText := true, laidKinds := [.data, .data], laidTests := true, laidLooks := .later }
def FleetOpenUptoCardSaid : Prop := Claim7.holds Tryz.pinned (.plain (OpenSpec.upto fleetOpenSpec)) fleetOpenUptoCard

/-- THE SECOND FORM's CARD OF 'swashplatelaw11.FleetGap'. -/
def fleetGapUptoCard : Claim7 := { stood := { row := fleetGapUptoRow, standIns := [], harness := (true, "634d0afb0a639d2f8ec1a9f2f6c23583c7ae9f3523da44fbcf5990d4c3363363"), looks := false }, kinds := [], alts := [], laidByText := true, laidKinds := [.data, .data], laidTests := true, laidLooks := .later }
def FleetGapUptoCardSaid : Prop := Claim7.holds Tryz.pinned (.plain (OpenSpec.upto fleetGapSpec)) fleetGapUptoCard

/-- THE SECOND FORM's CARD OF 'swashplatelaw11.FleetAnew'. -/
def fleetAnewUptoCard : Claim7 := { stood := { row := fleetAnewUptoRow, standIns := [], harness := (true, "634d0afb0a639d2f8ec1a9f2f6c23583c7ae9f3523da44fbcf5990d4c3363363"), looks := false }, kinds := [], alts := [], laidByText := true, laidKinds := [.data, .data], laidTests := true, laidLooks := .later }
def FleetAnewUptoCardSaid : Prop := Claim7.holds Tryz.pinned (.plain (OpenSpec.upto fleetAnewSpec)) fleetAnewUptoCard

/-- THE SECOND FORM's CARD OF 'swashplatetop.TopFog'. -/
def topFogUptoCard : Claim7 := { stood := { row := topFogUptoRow, standIns := [], harness := (true, "634d0afb0a639d2f8ec1a9f2f6c23583c7ae9f3523da44fbcf5990d4c3363363"), looks := false }, kinds := [], alts := [], laidByText := true, laidKinds := [.data, .data], laidTests := true, laidLooks := .later }
def TopFogUptoCardSaid : Prop := Claim7.holds Tryz.pinned (.plain (OpenSpec.upto topFogSpec)) topFogUptoCard

/-- THE SECOND FORM's CARD OF 'swashplatetop.TopFlown'. -/
def topFlownUptoCard : Claim7 := { stood := { row := topFlownUptoRow, standIns := [], harness := (true, "634d0afb0a639d2f8ec1a9f2f6c23583c7ae9f3523da44fbcf5990d4c3363363"), looks := false }, kinds := [], alts := [], laidByText := true, laidKinds := [.data, .data], laidTests := true, laidLooks := .later }
def TopFlownUptoCardSaid : Prop := Claim7.holds Tryz.pinned (.plain (OpenSpec.upto topFlownSpec)) topFlownUptoCard

/-- THE SECOND FORM's CARD OF 'swashplatetop.TopLess'. -/
def topLessUptoCard : Claim7 := { stood := { row := topLessUptoRow, standIns := [], harness := (true, "634d0afb0a639d2f8ec1a9f2f6c23583c7ae9f3523da44fbcf5990d4c3363363"), looks := false }, kinds := [], alts := [], laidByText := true, laidKinds := [.data, .data], laidTests := true, laidLooks := .later }
def TopLessUptoCardSaid : Prop := Claim7.holds Tryz.pinned (.plain (OpenSpec.upto topLessSpec)) topLessUptoCard
end Rows
end Go.Proofs.YtegiclpanpmkdaaGreatDoor
