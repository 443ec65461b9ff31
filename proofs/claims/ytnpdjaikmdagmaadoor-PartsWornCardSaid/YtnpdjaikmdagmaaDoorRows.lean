/-
  NARROWER THAN 'FOR EVERY INPUT', by the rows' own cells (each row's printed sentence says how): PartsPages: laid · PartsPaged: laid · PartsWorn: laid.
  DERIVED. THE GIVEN ROWS OF THIS SEAT. 3 by the template 'for every input the law returns true; each argument reads behind the call as it read before'; 0 by the template 'total and deterministic' (their statements: YtnpdjaikmdagmaaDoorTotals.lean).
  GIVEN WITH THE SEED: the statements are not yours to turn. If you find one false, say at which input.
  Laid BY PROGRAM, IN A SANDBOX (cutbox-rows.mjs): the forced cells as the released guide's own fill.sh prints them over the translation 4324249b0d20c84c… (all of the seat's roots in one cut). By AI agents, Wed Nov 11 2026. No macro, syntax, notation, axiom, sorry.
-/
import Derived.Test.YtnpdjaikmdagmaaDoorChecked
import GoSem.Claim
import GoSem.ClaimJoined
import GoSem.ClaimMapViews
import Derived.JoinedTies
import Derived.KernelRfl
namespace Go.Proofs.YtnpdjaikmdagmaaDoor
/- THE CELL 'sum', in the pinned program and in every row, IS THE sha256 OF THE DUMP (.gsa) THAT YtnpdjaikmdagmaaDoorProg.lean LOADS. Nothing in Lean hashes anything: it is a label: what it is worth is what the hold of that sum in a sandbox is worth. -/
noncomputable def Tryd.pinned : Pinned := { name := "ytnpdjaikmdagmaadoor", sum := "4324249b0d20c84c9b1a6095a7e9803f2dd53a0d1c36f3fd20dfdfc3dbbe3291", checked := Tryd.checked }
namespace Rows
def none {H : Type} : Left H := { results := [], args := [] }

/- WHAT THE LISTED PACKAGE-LEVEL VARIABLES READ AS WHEN THE CALL BEGINS. Each datum BY PROGRAM (the guide's laid-datum.mjs) off the statement by which the dump's own 'gosem.cut.vars' lays the variable. In a bare row this is a premise. The card (YtnpdjaikmdagmaaDoorCards.lean) ties it to the program's text. -/
def laid_swashplate_parts_store {H : Type} : DataW H := .agg [.lit (.int .i64 (-1)), .lit (.int .i64 (-1))]
def laid_swashplate_parts_scrap {H : Type} : DataW H := .agg [.lit (.int .i64 (-2)), .lit (.int .i64 (-2))]

/-- 'swashplatelaw09.PartsPages': WHATEVER THE INPUT: true; the input reads as it did. -/
def partsPagesSpec : ChangeSpec := { name := "partsPages", fn := fun _ => fun
  | [d1, d2] => { results := [.lit (.bool true)], args := [d1, d2] }
  | _ => none }
def partsPagesRow : OpenClaim := { program := "ytnpdjaikmdagmaadoor", sum := "4324249b0d20c84c9b1a6095a7e9803f2dd53a0d1c36f3fd20dfdfc3dbbe3291", func := "swashplate/swashplatelaw09.PartsPages", spec := "partsPages", unfollowed := true, recurses := true, named := ["swashplate/parts.store", "swashplate/parts.scrap"], apart := false, laid := [("swashplate/parts.store", laid_swashplate_parts_store), ("swashplate/parts.scrap", laid_swashplate_parts_scrap)] }
def PartsPagesSaid : Prop := partsPagesRow.holds Tryd.pinned (OpenSpec.ofChange partsPagesSpec)

/-- ITS FALSE NEIGHBOUR: 'it returns false'. Refute it at one input. -/
def partsPagesWrong : ChangeSpec := { name := "partsPages", fn := fun _ => fun
  | [d1, d2] => { results := [.lit (.bool false)], args := [d1, d2] }
  | _ => none }
def PartsPagesWrongFalsely : Prop := partsPagesRow.holds Tryd.pinned (OpenSpec.ofChange partsPagesWrong)

/-- 'swashplatelaw09.PartsPaged': WHATEVER THE INPUT: true; the input reads as it did. -/
def partsPagedSpec : ChangeSpec := { name := "partsPaged", fn := fun _ => fun
  | [d1, d2] => { results := [.lit (.bool true)], args := [d1, d2] }
  | _ => none }
def partsPagedRow : OpenClaim := { program := "ytnpdjaikmdagmaadoor", sum := "4324249b0d20c84c9b1a6095a7e9803f2dd53a0d1c36f3fd20dfdfc3dbbe3291", func := "swashplate/swashplatelaw09.PartsPaged", spec := "partsPaged", unfollowed := true, recurses := true, named := ["swashplate/parts.store", "swashplate/parts.scrap"], apart := false, laid := [("swashplate/parts.store", laid_swashplate_parts_store), ("swashplate/parts.scrap", laid_swashplate_parts_scrap)] }
def PartsPagedSaid : Prop := partsPagedRow.holds Tryd.pinned (OpenSpec.ofChange partsPagedSpec)

/-- ITS FALSE NEIGHBOUR: 'it returns false'. Refute it at one input. -/
def partsPagedWrong : ChangeSpec := { name := "partsPaged", fn := fun _ => fun
  | [d1, d2] => { results := [.lit (.bool false)], args := [d1, d2] }
  | _ => none }
def PartsPagedWrongFalsely : Prop := partsPagedRow.holds Tryd.pinned (OpenSpec.ofChange partsPagedWrong)

/-- 'swashplatelaw09.PartsWorn': WHATEVER THE INPUT: true; the input reads as it did. -/
def partsWornSpec : ChangeSpec := { name := "partsWorn", fn := fun _ => fun
  | [d1, d2, d3] => { results := [.lit (.bool true)], args := [d1, d2, d3] }
  | _ => none }
def partsWornRow : OpenClaim := { program := "ytnpdjaikmdagmaadoor", sum := "4324249b0d20c84c9b1a6095a7e9803f2dd53a0d1c36f3fd20dfdfc3dbbe3291", func := "swashplate/swashplatelaw09.PartsWorn", spec := "partsWorn", unfollowed := true, recurses := true, named := ["swashplate/parts.store", "swashplate/parts.scrap"], apart := false, laid := [("swashplate/parts.store", laid_swashplate_parts_store), ("swashplate/parts.scrap", laid_swashplate_parts_scrap)] }
def PartsWornSaid : Prop := partsWornRow.holds Tryd.pinned (OpenSpec.ofChange partsWornSpec)

/-- ITS FALSE NEIGHBOUR: 'it returns false'. Refute it at one input. -/
def partsWornWrong : ChangeSpec := { name := "partsWorn", fn := fun _ => fun
  | [d1, d2, d3] => { results := [.lit (.bool false)], args := [d1, d2, d3] }
  | _ => none }
def PartsWornWrongFalsely : Prop := partsWornRow.holds Tryd.pinned (OpenSpec.ofChange partsWornWrong)

/- THE SECOND FORM. 'bulk': how many values and letters a reading holds, each counted each time it is reached (what is shared counts as often as it is met; a slice's spare places count too). A statement '..UptoSaid' is the law's where the arguments, and the package variables that the reading takes, are together of bulk at most 1048576: NARROWER than '..Said'. Prove '..Said' where nothing that the law and all that it calls make is longer than what came in: it says more and counts as full. Else prove '..UptoSaid'. A law counts once. -/
mutual
def uptoBulk {H : Type} : DataW H → Nat
  | .lit (.string bytes) => bytes.length + 1
  | .lit _ => 1
  | .nil => 1
  | .ptr d => uptoBulk d + 1
  | .slice elems spare => uptoBulkAll elems + uptoBulkAll spare + 1
  | .agg parts => uptoBulkAll parts + 1
  | .iface _ d => uptoBulk d + 1
  | .map entries => uptoBulkEntries entries + 1
  | .held _ => 1
def uptoBulkAll {H : Type} : List (DataW H) → Nat
  | [] => 0
  | d :: r => uptoBulk d + uptoBulkAll r
def uptoBulkEntries {H : Type} : List (Lit × DataW H) → Nat
  | [] => 0
  | x :: r => uptoBulkEntry x + uptoBulkEntries r
def uptoBulkEntry {H : Type} : Lit × DataW H → Nat
  | (.string bytes, d) => bytes.length + uptoBulk d + 1
  | (_, d) => uptoBulk d + 1
 end
def uptoSmall : (H : Type) → List (DataW H) → Bool := fun _ ds => decide (uptoBulkAll ds ≤ 1048576)
def OpenSpec.upto (s : _root_.Go.ChangeSpec) : _root_.Go.OpenSpec := { _root_.Go.OpenSpec.ofChange s with cond := some uptoSmall }

/-- 'swashplatelaw09.PartsPages', WHERE WHAT IT READS IS OF BULK AT MOST 1048576: true; the input reads as it did. -/
def partsPagesUptoRow : OpenClaim := { program := "ytnpdjaikmdagmaadoor", sum := "4324249b0d20c84c9b1a6095a7e9803f2dd53a0d1c36f3fd20dfdfc3dbbe3291", func := "swashplate/swashplatelaw09.PartsPages", spec := "partsPages", unfollowed := true, recurses := true, named := ["swashplate/parts.store", "swashplate/parts.scrap"], apart := false, laid := [("swashplate/parts.store", laid_swashplate_parts_store), ("swashplate/parts.scrap", laid_swashplate_parts_scrap)], narrowed := true }
def PartsPagesUptoSaid : Prop := partsPagesUptoRow.holds Tryd.pinned (OpenSpec.upto partsPagesSpec)

/-- 'swashplatelaw09.PartsPaged', WHERE WHAT IT READS IS OF BULK AT MOST 1048576: true; the input reads as it did. -/
def partsPagedUptoRow : OpenClaim := { program := "ytnpdjaikmdagmaadoor", sum := "4324249b0d20c84c9b1a6095a7e9803f2dd53a0d1c36f3fd20dfdfc3dbbe3291", func := "swashplate/swashplatelaw09.PartsPaged", spec := "partsPaged", unfollowed := true, recurses := true, named := ["swashplate/parts.store", "swashplate/parts.scrap"], apart := false, laid := [("swashplate/parts.store", laid_swashplate_parts_store), ("swashplate/parts.scrap", laid_swashplate_parts_scrap)], narrowed := true }
def PartsPagedUptoSaid : Prop := partsPagedUptoRow.holds Tryd.pinned (OpenSpec.upto partsPagedSpec)

/-- 'swashplatelaw09.PartsWorn', WHERE WHAT IT READS IS OF BULK AT MOST 1048576: true; the input reads as it did. -/
def partsWornUptoRow : OpenClaim := { program := "ytnpdjaikmdagmaadoor", sum := "4324249b0d20c84c9b1a6095a7e9803f2dd53a0d1c36f3fd20dfdfc3dbbe3291", func := "swashplate/swashplatelaw09.PartsWorn", spec := "partsWorn", unfollowed := true, recurses := true, named := ["swashplate/parts.store", "swashplate/parts.scrap"], apart := false, laid := [("swashplate/parts.store", laid_swashplate_parts_store), ("swashplate/parts.scrap", laid_swashplate_parts_scrap)], narrowed := true }
def PartsWornUptoSaid : Prop := partsWornUptoRow.holds Tryd.pinned (OpenSpec.upto partsWornSpec)

end Rows
end Go.Proofs.YtnpdjaikmdagmaaDoor
