/-
  NARROWER THAN 'FOR EVERY INPUT', by the rows' own cells (each row's printed sentence says how): TopWorn: laid · PartsSuspects: laid.
  DERIVED. THE GIVEN ROWS OF THIS SEAT. 2 by the template 'for every input the law returns true; each argument reads behind the call as it read before'; 0 by the template 'total and deterministic' (their statements: YtnpdjaikmdagmaaGreatDoorTotals.lean).
  GIVEN WITH THE SEED: the statements are not yours to turn. If you find one false, say at which input.
  Laid BY PROGRAM, IN A SANDBOX (cutbox-rows.mjs): the forced cells as the released guide's own fill.sh prints them over the translation 1b4ec6eda2271d36… (all of the seat's roots in one cut). By AI agents, Wed Nov 11 2026. No macro, syntax, notation, axiom, sorry.
-/
import Derived.Test.YtnpdjaikmdagmaaGreatDoorChecked
import GoSem.Claim
import GoSem.ClaimJoined
import GoSem.ClaimMapViews
import Derived.JoinedTies
import Derived.KernelRfl
namespace Go.Proofs.YtnpdjaikmdagmaaGreatDoor
/- THE CELL 'sum', in the pinned program and in every row, IS THE sha256 OF THE DUMP (.gsa) THAT YtnpdjaikmdagmaaGreatDoorProg.lean LOADS. Nothing in Lean hashes anything: it is a label: what it is worth is what the hold of that sum in a sandbox is worth. -/
noncomputable def Tryz.pinned : Pinned := { name := "ytnpdjaikmdagmaagreatdoor", sum := "1b4ec6eda2271d3661acf69296d2bc41d589353596f667a089dcf7b219d00b88", checked := Tryz.checked }
namespace Rows
def none {H : Type} : Left H := { results := [], args := [] }

/- WHAT THE LISTED PACKAGE-LEVEL VARIABLES READ AS WHEN THE CALL BEGINS. Each datum BY PROGRAM (the guide's laid-datum.mjs) off the statement by which the dump's own 'gosem.cut.vars' lays the variable. In a bare row this is a premise. The card (YtnpdjaikmdagmaaGreatDoorCards.lean) ties it to the program's text. -/
def laid_swashplate_parts_store {H : Type} : DataW H := .agg [.lit (.int .i64 (-1)), .lit (.int .i64 (-1))]
def laid_swashplate_parts_scrap {H : Type} : DataW H := .agg [.lit (.int .i64 (-2)), .lit (.int .i64 (-2))]

/-- 'swashplatetop.TopWorn': WHATEVER THE INPUT: true; the input reads as it did. -/
def topWornSpec : ChangeSpec := { name := "topWorn", fn := fun _ => fun
  | [d1, d2, d3] => { results := [.lit (.bool true)], args := [d1, d2, d3] }
  | _ => none }
def topWornRow : OpenClaim := { program := "ytnpdjaikmdagmaagreatdoor", sum := "1b4ec6eda2271d3661acf69296d2bc41d589353596f667a089dcf7b219d00b88", func := "swashplate/swashplatetop.TopWorn", spec := "topWorn", unfollowed := true, recurses := true, named := ["swashplate/parts.store", "swashplate/parts.scrap"], apart := false, laid := [("swashplate/parts.store", laid_swashplate_parts_store), ("swashplate/parts.scrap", laid_swashplate_parts_scrap)] }
def TopWornSaid : Prop := topWornRow.holds Tryz.pinned (OpenSpec.ofChange topWornSpec)

/-- ITS FALSE NEIGHBOUR: 'it returns false'. Refute it at one input. -/
def topWornWrong : ChangeSpec := { name := "topWorn", fn := fun _ => fun
  | [d1, d2, d3] => { results := [.lit (.bool false)], args := [d1, d2, d3] }
  | _ => none }
def TopWornWrongFalsely : Prop := topWornRow.holds Tryz.pinned (OpenSpec.ofChange topWornWrong)

/-- 'swashplatelaw09.PartsSuspects': WHATEVER THE INPUT: true; the input reads as it did. -/
def partsSuspectsSpec : ChangeSpec := { name := "partsSuspects", fn := fun _ => fun
  | [d1, d2, d3] => { results := [.lit (.bool true)], args := [d1, d2, d3] }
  | _ => none }
def partsSuspectsRow : OpenClaim := { program := "ytnpdjaikmdagmaagreatdoor", sum := "1b4ec6eda2271d3661acf69296d2bc41d589353596f667a089dcf7b219d00b88", func := "swashplate/swashplatelaw09.PartsSuspects", spec := "partsSuspects", unfollowed := true, recurses := true, named := ["swashplate/parts.store", "swashplate/parts.scrap"], apart := false, laid := [("swashplate/parts.store", laid_swashplate_parts_store), ("swashplate/parts.scrap", laid_swashplate_parts_scrap)] }
def PartsSuspectsSaid : Prop := partsSuspectsRow.holds Tryz.pinned (OpenSpec.ofChange partsSuspectsSpec)

/-- ITS FALSE NEIGHBOUR: 'it returns false'. Refute it at one input. -/
def partsSuspectsWrong : ChangeSpec := { name := "partsSuspects", fn := fun _ => fun
  | [d1, d2, d3] => { results := [.lit (.bool false)], args := [d1, d2, d3] }
  | _ => none }
def PartsSuspectsWrongFalsely : Prop := partsSuspectsRow.holds Tryz.pinned (OpenSpec.ofChange partsSuspectsWrong)

/- THE SECOND FORM. 'bulk': how many values and letters a reading holds, each counted each time it is reached (what is shared counts as often as it is met; a slice's spare places count too). A statement '..UptoSaid' is the law's where the arguments, and the package variables that the reading takes, are together of bulk at most 1048576: NARROWER than '..Said'. Prove '..Said' where nothing that the law and all that it calls make is longer than what came in: it says more and counts as full. Else prove '..UptoSaid'. A law counts once. -/
mutual
def uptoBulk {H : Type} : DataW H → Nat
  | .lit (.string bytes) => bytes.length + 1
  | .lit _ => 1
  | .nil => 1
  | .ptr d => uptoBulk d + 1
  | .slice elems spare => uptoBulkAll elems + uptoBulkAll spare + 1
  | .agg parts => uptoBulkAll parts + 1
  | .iface _ d => uptoBulk d + 1
  | .map entries => uptoBulkEntries entries + 1
  | .held _ => 1
def uptoBulkAll {H : Type} : List (DataW H) → Nat
  | [] => 0
  | d :: r => uptoBulk d + uptoBulkAll r
def uptoBulkEntries {H : Type} : List (Lit × DataW H) → Nat
  | [] => 0
  | x :: r => uptoBulkEntry x + uptoBulkEntries r
def uptoBulkEntry {H : Type} : Lit × DataW H → Nat
  | (.string bytes, d) => bytes.length + uptoBulk d + 1
  | (_, d) => uptoBulk d + 1
 end
def uptoSmall : (H : Type) → List (DataW H) → Bool := fun _ ds => decide (uptoBulkAll ds ≤ 1048576)
def OpenSpec.upto (s : _root_.Go.ChangeSpec) : _root_.Go.OpenSpec := { _root_.Go.OpenSpec.ofChange s with cond := some uptoSmall }

/-- 'swashplatetop.TopWorn', WHERE WHAT IT READS IS OF BULK AT MOST 1048576: true; the input reads as it did. -/
def topWornUptoRow : OpenClaim := { program := "ytnpdjaikmdagmaagreatdoor", sum := "1b4ec6eda2271d3661acf69296d2bc41d589353596f667a089dcf7b219d00b88", func := "swashplate/swashplatetop.TopWorn", spec := "topWorn", unfollowed := true, recurses := true, named := ["swashplate/parts.store", "swashplate/parts.scrap"], apart := false, laid := [("swashplate/parts.store", laid_swashplate_parts_store), ("swashplate/parts.scrap", laid_swashplate_parts_scrap)], narrowed := true }
def TopWornUptoSaid : Prop := topWornUptoRow.holds Tryz.pinned (OpenSpec.upto topWornSpec)

/-- 'swashplatelaw09.PartsSuspects', WHERE WHAT IT READS IS OF BULK AT MOST 1048576: true; the input reads as it did. -/
def partsSuspectsUptoRow : OpenClaim := { program := "ytnpdjaikmdagmaagreatdoor", sum := "1b4ec6eda2271d3661acf69296d2bc41d589353596f667a089dcf7b219d00b88", func := "swashplate/swashplatelaw09.PartsSuspects", spec := "partsSuspects", unfollowed := true, recurses := true, named := ["swashplate/parts.store", "swashplate/parts.scrap"], apart := false, laid := [("swashplate/parts.store", laid_swashplate_parts_store), ("swashplate/parts.scrap", laid_swashplate_parts_scrap)], narrowed := true }
def PartsSuspectsUptoSaid : Prop := partsSuspectsUptoRow.holds Tryz.pinned (OpenSpec.upto partsSuspectsSpec)

end Rows
end Go.Proofs.YtnpdjaikmdagmaaGreatDoor
