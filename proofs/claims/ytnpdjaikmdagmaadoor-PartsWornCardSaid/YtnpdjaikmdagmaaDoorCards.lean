/-
  DERIVED. GIVEN WITH THE SEED: THE CARDS: each row of YtnpdjaikmdagmaaDoorRows.lean that lists a variable, with what it lists TIED to the program's text (the seventh form; the later family's looks); each row that meets fmt, with fmt's text TOLD by the authors' own Lean function (tested against real Go, not proved from fmt's source: count such statements apart). THE CARD IS WHAT COUNTS. Prove the row's statement (the work); the ties are given (YtnpdjaikmdagmaaDoorTie.lean); close each card by the builder's one call (the guide's Derived/Test/ToyasCard.lean, 'card_holds'). Laid BY PROGRAM, IN A SANDBOX (cutbox-door.mjs). By AI agents, Wed Nov 11 2026. No macro, syntax, notation, axiom, sorry.
-/
import Derived.Test.YtnpdjaikmdagmaaDoorRows
import GoSem.ClaimSeven
namespace Go.Proofs.YtnpdjaikmdagmaaDoor
namespace Rows

/-- THE TIED CARD OF 'swashplatelaw09.PartsPages'. -/
def partsPagesCard : Claim7 := { stood := { row := partsPagesRow, standIns := [], harness := (true, "8d948b6d8c039f7b9d0ad8d7d3cedbb34c16827094cd0552fc31c5e763ca5570"), looks := false }, kinds := [], alts := [], laidByText := true, laidKinds := [.data, .data], laidTests := true, laidLooks := .later }
def PartsPagesCardSaid : Prop := Claim7.holds Tryd.pinned (.plain (OpenSpec.ofChange partsPagesSpec)) partsPagesCard

/-- THE TIED CARD OF 'swashplatelaw09.PartsPaged'. -/
def partsPagedCard : Claim7 := { stood := { row := partsPagedRow, standIns := [], harness := (true, "8d948b6d8c039f7b9d0ad8d7d3cedbb34c16827094cd0552fc31c5e763ca5570"), looks := false }, kinds := [], alts := [], laidByText := true, laidKinds := [.data, .data], laidTests := true, laidLooks := .later }
def PartsPagedCardSaid : Prop := Claim7.holds Tryd.pinned (.plain (OpenSpec.ofChange partsPagedSpec)) partsPagedCard

/-- THE TIED CARD OF 'swashplatelaw09.PartsWorn'. -/
def partsWornCard : Claim7 := { stood := { row := partsWornRow, standIns := [], harness := (true, "8d948b6d8c039f7b9d0ad8d7d3cedbb34c16827094cd0552fc31c5e763ca5570"), looks := false }, kinds := [], alts := [], laidByText := true, laidKinds := [.data, .data], laidTests := true, laidLooks := .later }
def PartsWornCardSaid : Prop := Claim7.holds Tryd.pinned (.plain (OpenSpec.ofChange partsWornSpec)) partsWornCard

/-- THE SECOND FORM's CARD OF 'swashplatelaw09.PartsPages'. -/
def partsPagesUptoCard : Claim7 := { stood := { row := partsPagesUptoRow, standIns := [], harness := (true, "8d948b6d8c039f7b9d0ad8d7d3cedbb34c16827094cd0552fc31c5e763ca5570"), looks := false }, kinds := [], alts := [], laidByText := true, laidKinds := [.data, .data], laidTests := true, laidLooks := .later }
def PartsPagesUptoCardSaid : Prop := Claim7.holds Tryd.pinned (.plain (OpenSpec.upto partsPagesSpec)) partsPagesUptoCard

/-- THE SECOND FORM's CARD OF 'swashplatelaw09.PartsPaged'. -/
def partsPagedUptoCard : Claim7 := { stood := { row := partsPagedUptoRow, standIns := [], harness := (true, "8d948b6d8c039f7b9d0ad8d7d3cedbb34c16827094cd0552fc31c5e763ca5570"), looks := false }, kinds := [], alts := [], laidByText := true, laidKinds := [.data, .data], laidTests := true, laidLooks := .later }
def PartsPagedUptoCardSaid : Prop := Claim7.holds Tryd.pinned (.plain (OpenSpec.upto partsPagedSpec)) partsPagedUptoCard

/-- THE SECOND FORM's CARD OF 'swashplatelaw09.PartsWorn'. -/
def partsWornUptoCard : Claim7 := { stood := { row := partsWornUptoRow, standIns := [], harness := (true, "8d948b6d8c039f7b9d0ad8d7d3cedbb34c16827094cd0552fc31c5e763ca5570"), looks := false }, kinds := [], alts := [], laidByText := true, laidKinds := [.data, .data], laidTests := true, laidLooks := .later }
def PartsWornUptoCardSaid : Prop := Claim7.holds Tryd.pinned (.plain (OpenSpec.upto partsWornSpec)) partsWornUptoCard
end Rows
end Go.Proofs.YtnpdjaikmdagmaaDoor
