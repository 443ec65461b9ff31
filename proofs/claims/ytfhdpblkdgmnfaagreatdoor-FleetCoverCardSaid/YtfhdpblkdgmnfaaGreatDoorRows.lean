/-
  NARROWER THAN 'FOR EVERY INPUT', by the rows' own cells (each row's printed sentence says how): TopRested: laid · FleetParts: laid · FleetCrews: laid · FleetCover: laid.
  DERIVED. THE GIVEN ROWS OF THIS SEAT. 4 by the template 'for every input the law returns true; each argument reads behind the call as it read before'; 0 by the template 'total and deterministic' (their statements: YtfhdpblkdgmnfaaGreatDoorTotals.lean).
  GIVEN WITH THE SEED: the statements are not yours to turn. If you find one false, say at which input.
  Laid BY PROGRAM, IN A SANDBOX (cutbox-rows.mjs): the forced cells as the released guide's own fill.sh prints them over the translation d6d6946d00574fa4… (all of the seat's roots in one cut). By AI agents, Wed Nov 11 2026. No macro, syntax, notation, axiom, sorry.
-/
import Derived.Test.YtfhdpblkdgmnfaaGreatDoorChecked
import GoSem.Claim
import GoSem.ClaimJoined
import GoSem.ClaimMapViews
import Derived.JoinedTies
import Derived.KernelRfl
namespace Go.Proofs.YtfhdpblkdgmnfaaGreatDoor
/- THE CELL 'sum', in the pinned program and in every row, IS THE sha256 OF THE DUMP (.gsa) THAT YtfhdpblkdgmnfaaGreatDoorProg.lean LOADS. Nothing in Lean hashes anything: it is a label: what it is worth is what the hold of that sum in a sandbox is worth. -/
noncomputable def Tryz.pinned : Pinned := { name := "ytfhdpblkdgmnfaagreatdoor", sum := "d6d6946d00574fa408458eb09a8ce558fa69182aed4291bfed6b68d608725a5a", checked := Tryz.checked }
namespace Rows
def none {H : Type} : Left H := { results := [], args := [] }

/- WHAT THE LISTED PACKAGE-LEVEL VARIABLES READ AS WHEN THE CALL BEGINS. Each datum BY PROGRAM (the guide's laid-datum.mjs) off the statement by which the dump's own 'gosem.cut.vars' lays the variable. In a bare row this is a premise. The card (YtfhdpblkdgmnfaaGreatDoorCards.lean) ties it to the program's text. -/
def laid_swashplate_parts_store {H : Type} : DataW H := .agg [.lit (.int .i64 (-1)), .lit (.int .i64 (-1))]
def laid_swashplate_parts_scrap {H : Type} : DataW H := .agg [.lit (.int .i64 (-2)), .lit (.int .i64 (-2))]

/-- 'swashplatetop.TopRested': WHATEVER THE INPUT: true; the input reads as it did. -/
def topRestedSpec : ChangeSpec := { name := "topRested", fn := fun _ => fun
  | [d1, d2, d3] => { results := [.lit (.bool true)], args := [d1, d2, d3] }
  | _ => none }
def topRestedRow : OpenClaim := { program := "ytfhdpblkdgmnfaagreatdoor", sum := "d6d6946d00574fa408458eb09a8ce558fa69182aed4291bfed6b68d608725a5a", func := "swashplate/swashplatetop.TopRested", spec := "topRested", unfollowed := true, recurses := true, named := ["swashplate/parts.store", "swashplate/parts.scrap"], apart := false, laid := [("swashplate/parts.store", laid_swashplate_parts_store), ("swashplate/parts.scrap", laid_swashplate_parts_scrap)] }
def TopRestedSaid : Prop := topRestedRow.holds Tryz.pinned (OpenSpec.ofChange topRestedSpec)

/-- ITS FALSE NEIGHBOUR: 'it returns false'. Refute it at one input. -/
def topRestedWrong : ChangeSpec := { name := "topRested", fn := fun _ => fun
  | [d1, d2, d3] => { results := [.lit (.bool false)], args := [d1, d2, d3] }
  | _ => none }
def TopRestedWrongFalsely : Prop := topRestedRow.holds Tryz.pinned (OpenSpec.ofChange topRestedWrong)

/-- 'swashplatelaw11.FleetParts': WHATEVER THE INPUT: true; the input reads as it did. -/
def fleetPartsSpec : ChangeSpec := { name := "fleetParts", fn := fun _ => fun
  | [d1, d2] => { results := [.lit (.bool true)], args := [d1, d2] }
  | _ => none }
def fleetPartsRow : OpenClaim := { program := "ytfhdpblkdgmnfaagreatdoor", sum := "d6d6946d00574fa408458eb09a8ce558fa69182aed4291bfed6b68d608725a5a", func := "swashplate/swashplatelaw11.FleetParts", spec := "fleetParts", unfollowed := true, recurses := true, named := ["swashplate/parts.store", "swashplate/parts.scrap"], apart := false, laid := [("swashplate/parts.store", laid_swashplate_parts_store), ("swashplate/parts.scrap", laid_swashplate_parts_scrap)] }
def FleetPartsSaid : Prop := fleetPartsRow.holds Tryz.pinned (OpenSpec.ofChange fleetPartsSpec)

/-- ITS FALSE NEIGHBOUR: 'it returns false'. Refute it at one input. -/
def fleetPartsWrong : ChangeSpec := { name := "fleetParts", fn := fun _ => fun
  | [d1, d2] => { results := [.lit (.bool false)], args := [d1, d2] }
  | _ => none }
def FleetPartsWrongFalsely : Prop := fleetPartsRow.holds Tryz.pinned (OpenSpec.ofChange fleetPartsWrong)

/-- 'swashplatelaw11.FleetCrews': WHATEVER THE INPUT: true; the input reads as it did. -/
def fleetCrewsSpec : ChangeSpec := { name := "fleetCrews", fn := fun _ => fun
  | [d1, d2] => { results := [.lit (.bool true)], args := [d1, d2] }
  | _ => none }
def fleetCrewsRow : OpenClaim := { program := "ytfhdpblkdgmnfaagreatdoor", sum := "d6d6946d00574fa408458eb09a8ce558fa69182aed4291bfed6b68d608725a5a", func := "swashplate/swashplatelaw11.FleetCrews", spec := "fleetCrews", unfollowed := true, recurses := true, named := ["swashplate/parts.store", "swashplate/parts.scrap"], apart := false, laid := [("swashplate/parts.store", laid_swashplate_parts_store), ("swashplate/parts.scrap", laid_swashplate_parts_scrap)] }
def FleetCrewsSaid : Prop := fleetCrewsRow.holds Tryz.pinned (OpenSpec.ofChange fleetCrewsSpec)

/-- ITS FALSE NEIGHBOUR: 'it returns false'. Refute it at one input. -/
def fleetCrewsWrong : ChangeSpec := { name := "fleetCrews", fn := fun _ => fun
  | [d1, d2] => { results := [.lit (.bool false)], args := [d1, d2] }
  | _ => none }
def FleetCrewsWrongFalsely : Prop := fleetCrewsRow.holds Tryz.pinned (OpenSpec.ofChange fleetCrewsWrong)

/-- 'swashplatelaw11.FleetCover': WHATEVER THE INPUT: true; the input reads as it did. -/
def fleetCoverSpec : ChangeSpec := { name := "fleetCover", fn := fun _ => fun
  | [d1, d2] => { results := [.lit (.bool true)], args := [d1, d2] }
  | _ => none }
def fleetCoverRow : OpenClaim := { program := "ytfhdpblkdgmnfaagreatdoor", sum := "d6d6946d00574fa408458eb09a8ce558fa69182aed4291bfed6b68d608725a5a", func := "swashplate/swashplatelaw11.FleetCover", spec := "fleetCover", unfollowed := true, recurses := true, named := ["swashplate/parts.store", "swashplate/parts.scrap"], apart := false, laid := [("swashplate/parts.store", laid_swashplate_parts_store), ("swashplate/parts.scrap", laid_swashplate_parts_scrap)] }
def FleetCoverSaid : Prop := fleetCoverRow.holds Tryz.pinned (OpenSpec.ofChange fleetCoverSpec)

/-- ITS FALSE NEIGHBOUR: 'it returns false'. Refute it at one input. -/
def fleetCoverWrong : ChangeSpec := { name := "fleetCover", fn := fun _ => fun
  | [d1, d2] => { results := [.lit (.bool false)], args := [d1, d2] }
  | _ => none }
def FleetCoverWrongFalsely : Prop := fleetCoverRow.holds Tryz.pinned (OpenSpec.ofChange fleetCoverWrong)

/- THE SECOND FORM. 'bulk': how many values and letters a reading holds, each counted each time it is reached (what is shared counts as often as it is met; a slice's spare places count too). A statement '..UptoSaid' is the law's where the arguments, and the package variables that the reading takes, are together of bulk at most 1048576: NARROWER than '..Said'. Prove '..Said' where nothing that the law and all that it calls make is longer than what came in: it says more and counts as full. Else prove '..UptoSaid'. A law counts once. -/
mutual
def uptoBulk {H : Type} : DataW H → Nat
  | .lit (.string bytes) => bytes.length + 1
  | .lit _ => 1
  | .nil => 1
  | .ptr d => uptoBulk d + 1
  | .slice elems spare => uptoBulkAll elems + uptoBulkAll spare + 1
  | .agg parts => uptoBulkAll parts + 1
  | .iface _ d => uptoBulk d + 1
  | .map entries => uptoBulkEntries entries + 1
  | .held _ => 1
def uptoBulkAll {H : Type} : List (DataW H) → Nat
  | [] => 0
  | d :: r => uptoBulk d + uptoBulkAll r
def uptoBulkEntries {H : Type} : List (Lit × DataW H) → Nat
  | [] => 0
  | x :: r => uptoBulkEntry x + uptoBulkEntries r
def uptoBulkEntry {H : Type} : Lit × DataW H → Nat
  | (.string bytes, d) => bytes.length + uptoBulk d + 1
  | (_, d) => uptoBulk d + 1
 end
def uptoSmall : (H : Type) → List (DataW H) → Bool := fun _ ds => decide (uptoBulkAll ds ≤ 1048576)
def OpenSpec.upto (s : _root_.Go.ChangeSpec) : _root_.Go.OpenSpec := { _root_.Go.OpenSpec.ofChange s with cond := some uptoSmall }

/-- 'swashplatetop.TopRested', WHERE WHAT IT READS IS OF BULK AT MOST 1048576: true; the input reads as it did. -/
def topRestedUptoRow : OpenClaim := { program := "ytfhdpblkdgmnfaagreatdoor", sum := "d6d6946d00574fa408458eb09a8ce558fa69182aed4291bfed6b68d608725a5a", func := "swashplate/swashplatetop.TopRested", spec := "topRested", unfollowed := true, recurses := true, named := ["swashplate/parts.store", "swashplate/parts.scrap"], apart := false, laid := [("swashplate/parts.store", laid_swashplate_parts_store), ("swashplate/parts.scrap", laid_swashplate_parts_scrap)], narrowed := true }
def TopRestedUptoSaid : Prop := topRestedUptoRow.holds Tryz.pinned (OpenSpec.upto topRestedSpec)

/-- 'swashplatelaw11.FleetParts', WHERE WHAT IT READS IS OF BULK AT MOST 1048576: true; the input reads as it did. -/
def fleetPartsUptoRow : OpenClaim := { program := "ytfhdpblkdgmnfaagreatdoor", sum := "d6d6946d00574fa408458eb09a8ce558fa69182aed4291bfed6b68d608725a5a", func := "swashplate/swashplatelaw11.FleetParts", spec := "fleetParts", unfollowed := true, recurses := true, named := ["swashplate/parts.store", "swashplate/parts.scrap"], apart := false, laid := [("swashplate/parts.store", laid_swashplate_parts_store), ("swashplate/parts.scrap", laid_swashplate_parts_scrap)], narrowed := true }
def FleetPartsUptoSaid : Prop := fleetPartsUptoRow.holds Tryz.pinned (OpenSpec.upto fleetPartsSpec)

/-- 'swashplatelaw11.FleetCrews', WHERE WHAT IT READS IS OF BULK AT MOST 1048576: true; the input reads as it did. -/
def fleetCrewsUptoRow : OpenClaim := { program := "ytfhdpblkdgmnfaagreatdoor", sum := "d6d6946d00574fa408458eb09a8ce558fa69182aed4291bfed6b68d608725a5a", func := "swashplate/swashplatelaw11.FleetCrews", spec := "fleetCrews", unfollowed := true, recurses := true, named := ["swashplate/parts.store", "swashplate/parts.scrap"], apart := false, laid := [("swashplate/parts.store", laid_swashplate_parts_store), ("swashplate/parts.scrap", laid_swashplate_parts_scrap)], narrowed := true }
def FleetCrewsUptoSaid : Prop := fleetCrewsUptoRow.holds Tryz.pinned (OpenSpec.upto fleetCrewsSpec)

/-- 'swashplatelaw11.FleetCover', WHERE WHAT IT READS IS OF BULK AT MOST 1048576: true; the input reads as it did. -/
def fleetCoverUptoRow : OpenClaim := { program := "ytfhdpblkdgmnfaagreatdoor", sum := "d6d6946d00574fa408458eb09a8ce558fa69182aed4291bfed6b68d608725a5a", func := "swashplate/swashplatelaw11.FleetCover", spec := "fleetCover", unfollowed := true, recurses := true, named := ["swashplate/parts.store", "swashplate/parts.scrap"], apart := false, laid := [("swashplate/parts.store", laid_swashplate_parts_store), ("swashplate/parts.scrap", laid_swashplate_parts_scrap)], narrowed := true }
def FleetCoverUptoSaid : Prop := fleetCoverUptoRow.holds Tryz.pinned (OpenSpec.upto fleetCoverSpec)

end Rows
end Go.Proofs.YtfhdpblkdgmnfaaGreatDoor
