/-
  DERIVED. GIVEN WITH THE SEED: THE CARDS: each row of YtnpdjaikmdagmaaGreatDoorRows.lean that lists a variable, with what it lists TIED to the program's text (the seventh form; the later family's looks); each row that meets fmt, with fmt's text TOLD by the authors' own Lean function (tested against real Go, not proved from fmt's source: count such statements apart). THE CARD IS WHAT COUNTS. Prove the row's statement (the work); the ties are given (YtnpdjaikmdagmaaGreatDoorTie.lean); close each card by the builder's one call (the guide's Derived/Test/ToyasCard.lean, 'card_holds'). Laid BY PROGRAM, IN A SANDBOX (cutbox-door.mjs). By AI agents, Wed Nov 11 2026. No macro, syntax, notation, axiom, sorry.
-/
import Derived.Test.YtnpdjaikmdagmaaGreatDoorRows
import GoSem.ClaimSeven
namespace Go.Proofs.YtnpdjaikmdagmaaGreatDoor
namespace Rows

/-- THE TIED CARD OF 'swashplatetop.TopWorn'. -/
def topWornCard : Claim7 := { stood := { row := topWornRow, standIns := [], harness := (true, "75f82bbaa0f2bc9de6c7eba20deeb05a386f25a328bd02accc6172d673976255"), looks := false }, kinds := [], alts := [], laidByText := true, laidKinds := [.data, .data], laidTests := true, laidLooks := .later }
def TopWornCardSaid : Prop := Claim7.holds Tryz.pinned (.plain (OpenSpec.ofChange topWornSpec)) topWornCard

/-- THE TIED CARD OF 'swashplatelaw09.PartsSuspects'. -/
def partsSuspectsCard : Claim7 := { stood := { row := partsSuspectsRow, standIns := [], harness := (true, "75f82bbaa0f2bc9de6c7eba20deeb05a386f25a328bd02accc6172d673976255"), looks := false }, kinds := [], alts := [], laidByText := true, laidKinds := [.data, .data], laidTests := true, laidLooks := .later }
def PartsSuspectsCardSaid : Prop := Claim7.holds Tryz.pinned (.plain (OpenSpec.ofChange partsSuspectsSpec)) partsSuspectsCard

/-- THE SECOND FORM's CARD OF 'swashplatetop.TopWorn'. -/
def topWornUptoCard : Claim7 := { stood := { row := topWornUptoRow, standIns := [], harness := (true, "75f82bbaa0f2bc9de6c7eba20deeb05a386f25a328bd02accc6172d673976255"), looks := false }, kinds := [], alts := [], laidByText := true, laidKinds := [.data, .data], laidTests := true, laidLooks := .later }
def TopWornUptoCardSaid : Prop := Claim7.holds Tryz.pinned (.plain (OpenSpec.upto topWornSpec)) topWornUptoCard

/-- THE SECOND FORM's CARD OF 'swashplatelaw09.PartsSuspects'. -/
def partsSuspectsUptoCard : Claim7 := { stood := { row := partsSuspectsUptoRow, standIns := [], harness := (true, "75f82bbaa0f2bc9de6c7eba20deeb05a386f25a328bd02accc6172d673976255"), looks := false }, kinds := [], alts := [], laidByText := true, laidKinds := [.data, .data], laidTests := true, laidLooks := .later }
def PartsSuspectsUptoCardSaid : Prop := Claim7.holds Tryz.pinned (.plain (OpenSpec.upto partsSuspectsSpec)) partsSuspectsUptoCard
end Rows
end Go.Proofs.YtnpdjaikmdagmaaGreatDoor
