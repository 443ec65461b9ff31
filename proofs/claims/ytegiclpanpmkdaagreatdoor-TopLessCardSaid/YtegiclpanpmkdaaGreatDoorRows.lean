/-
  NARROWER THAN 'FOR EVERY INPUT', by the rows' own cells (each row's printed sentence says how): FleetBegins: laid · FleetOpen: laid · FleetGap: laid · FleetAnew: laid · TopFog: laid · TopFlown: laid · TopLess: laid.
  DERIVED. THE GIVEN ROWS OF THIS SEAT. 7 by the template 'for every input the law returns true; each argument reads behind the call as it read before'; 0 by the template 'total and deterministic' (their statements: YtegiclpanpmkdaaGreatDoorTotals.lean).
  GIVEN WITH THE SEED: the statements are not yours to turn. If you find one false, say at which input.
  Laid BY PROGRAM, IN A SANDBOX (cutbox-rows.mjs): the forced cells as the released guide's own fill.sh prints them over the translation 022305ed4c5cd452… (all of the seat's roots in one cut). By AI agents, Wed Nov 11 2026. No macro, syntax, notation, axiom, sorry.
-/
import Derived.Test.YtegiclpanpmkdaaGreatDoorChecked
import GoSem.Claim
import GoSem.ClaimJoined
import GoSem.ClaimMapViews
import Derived.JoinedTies
import Derived.KernelRfl
namespace Go.Proofs.YtegiclpanpmkdaaGreatDoor
/- THE CELL 'sum', in the pinned program and in every row, IS THE sha256 OF THE DUMP (.gsa) THAT YtegiclpanpmkdaaGreatDoorProg.lean LOADS. Nothing in Lean hashes anything: it is a label: what it is worth is what the hold of that sum in a sandbox is worth. -/
noncomputable def Tryz.pinned : Pinned := { name := "ytegiclpanpmkdaagreatdoor", sum := "022305ed4c5cd452d4d12acbd2fb15f0a82a1addd58ff0c0b1cd89183bb2f1f3", checked := Tryz.checked }
namespace Rows
def none {H : Type} : Left H := { results := [], args := [] }

/- WHAT THE LISTED PACKAGE-LEVEL VARIABLES READ AS WHEN THE CALL BEGINS. Each datum BY PROGRAM (the guide's laid-datum.mjs) off the statement by which the dump's own 'gosem.cut.vars' lays the variable. In a bare row this is a premise. The card (YtegiclpanpmkdaaGreatDoorCards.lean) ties it to the program's text. -/
def laid_swashplate_parts_store {H : Type} : DataW H := .agg [.lit (.int .i64 (-1)), .lit (.int .i64 (-1))]
def laid_swashplate_parts_scrap {H : Type} : DataW H := .agg [.lit (.int .i64 (-2)), .lit (.int .i64 (-2))]

/-- 'swashplatelaw11.FleetBegins': WHATEVER THE INPUT: true; the input reads as it did. -/
def fleetBeginsSpec : ChangeSpec := { name := "fleetBegins", fn := fun _ => fun
  | [d1, d2] => { results := [.lit (.bool true)], args := [d1, d2] }
  | _ => none }
def fleetBeginsRow : OpenClaim := { program := "ytegiclpanpmkdaagreatdoor", sum := "022305ed4c5cd452d4d12acbd2fb15f0a82a1addd58ff0c0b1cd89183bb2f1f3", func := "swashplate/swashplatelaw11.FleetBegins", spec := "fleetBegins", unfollowed := true, recurses := true, named := ["swashplate/parts.store", "swashplate/parts.scrap"], apart := false, laid := [("swashplate/parts.store", laid_swashplate_parts_store), ("swashplate/parts.scrap", laid_swashplate_parts_scrap)] }
def FleetBeginsSaid : Prop := fleetBeginsRow.holds Tryz.pinned (OpenSpec.ofChange fleetBeginsSpec)

/-- ITS FALSE NEIGHBOUR: 'it returns false'. Refute it at one input. -/
def fleetBeginsWrong : ChangeSpec := { name := "fleetBegins", fn := fun _ => fun
  | [d1, d2] => { results := [.lit (.bool false)], args := [d1, d2] }
  | _ => none }
def FleetBeginsWrongFalsely : Prop := fleetBeginsRow.holds Tryz.pinned (OpenSpec.ofChange fleetBeginsWrong)

/-- 'swashplatelaw11.FleetOpen': WHATEVER THE INPUT: true; the input reads as it did. -/
def fleetOpenSpec : ChangeSpec := { name := "fleetOpen", fn := fun _ => fun
  | [d1, d2] => { results := [.lit (.bool true)], args := [d1, d2] }
  | _ => none }
def fleetOpenRow : OpenClaim := { program := "ytegiclpanpmkdaagreatdoor", sum := "022305ed4c5cd452d4d12acbd2fb15f0a82a1addd58ff0c0b1cd89183bb2f1f3", func := "swashplate/swashplatelaw11.FleetOpen", spec := "fleetOpen", unfollowed := true, recurses := true, named := ["swashplate/parts.store", "swashplate/parts.scrap"], apart := false, laid := [("swashplate/parts.store", laid_swashplate_parts_store), ("swashplate/parts.scrap", laid_swashplate_parts_scrap)] }
def FleetOpenSaid : Prop := fleetOpenRow.holds Tryz.pinned (OpenSpec.ofChange fleetOpenSpec)

/-- ITS FALSE NEIGHBOUR: 'it returns false'. Refute it at one input. -/
def fleetOpenWrong : ChangeSpec := { name := "fleetOpen", fn := fun _ => fun
  | [d1, d2] => { results := [.lit (.bool false)], args := [d1, d2] }
  | _ => none }
def FleetOpenWrongFalsely : Prop := fleetOpenRow.holds Tryz.pinned (OpenSpec.ofChange fleetOpenWrong)

/-- 'swashplatelaw11.FleetGap': WHATEVER THE INPUT: true; the input reads as it did. -/
def fleetGapSpec : ChangeSpec := { name := "fleetGap", fn := fun _ => fun
  | [d1, d2, d3] => { results := [.lit (.bool true)], args := [d1, d2, d3] }
  | _ => none }
def fleetGapRow : OpenClaim := { program := "ytegiclpanpmkdaagreatdoor", sum := "022305ed4c5cd452d4d12acbd2fb15f0a82a1addd58ff0c0b1cd89183bb2f1f3", func := "swashplate/swashplatelaw11.FleetGap", spec := "fleetGap", unfollowed := true, recurses := true, named := ["swashplate/parts.store", "swashplate/parts.scrap"], apart := false, laid := [("swashplate/parts.store", laid_swashplate_parts_store), ("swashplate/parts.scrap", laid_swashplate_parts_scrap)] }
def FleetGapSaid : Prop := fleetGapRow.holds Tryz.pinned (OpenSpec.ofChange fleetGapSpec)

/-- ITS FALSE NEIGHBOUR: 'it returns false'. Refute it at one input. -/
def fleetGapWrong : ChangeSpec := { name := "fleetGap", fn := fun _ => fun
  | [d1, d2, d3] => { results := [.lit (.bool false)], args := [d1, d2, d3] }
  | _ => none }
def FleetGapWrongFalsely : Prop := fleetGapRow.holds Tryz.pinned (OpenSpec.ofChange fleetGapWrong)

/-- 'swashplatelaw11.FleetAnew': WHATEVER THE INPUT: true; the input reads as it did. -/
def fleetAnewSpec : ChangeSpec := { name := "fleetAnew", fn := fun _ => fun
  | [d1, d2, d3] => { results := [.lit (.bool true)], args := [d1, d2, d3] }
  | _ => none }
def fleetAnewRow : OpenClaim := { program := "ytegiclpanpmkdaagreatdoor", sum := "022305ed4c5cd452d4d12acbd2fb15f0a82a1addd58ff0c0b1cd89183bb2f1f3", func := "swashplate/swashplatelaw11.FleetAnew", spec := "fleetAnew", unfollowed := true, recurses := true, named := ["swashplate/parts.store", "swashplate/parts.scrap"], apart := false, laid := [("swashplate/parts.store", laid_swashplate_parts_store), ("swashplate/parts.scrap", laid_swashplate_parts_scrap)] }
def FleetAnewSaid : Prop := fleetAnewRow.holds Tryz.pinned (OpenSpec.ofChange fleetAnewSpec)

/-- ITS FALSE NEIGHBOUR: 'it returns false'. Refute it at one input. -/
def fleetAnewWrong : ChangeSpec := { name := "fleetAnew", fn := fun _ => fun
  | [d1, d2, d3] => { results := [.lit (.bool false)], args := [d1, d2, d3] }
  | _ => none }
def FleetAnewWrongFalsely : Prop := fleetAnewRow.holds Tryz.pinned (OpenSpec.ofChange fleetAnewWrong)

/-- 'swashplatetop.TopFog': WHATEVER THE INPUT: true; the input reads as it did. -/
def topFogSpec : ChangeSpec := { name := "topFog", fn := fun _ => fun
  | [d1, d2, d3] => { results := [.lit (.bool true)], args := [d1, d2, d3] }
  | _ => none }
def topFogRow : OpenClaim := { program := "ytegiclpanpmkdaagreatdoor", sum := "022305ed4c5cd452d4d12acbd2fb15f0a82a1addd58ff0c0b1cd89183bb2f1f3", func := "swashplate/swashplatetop.TopFog", spec := "topFog", unfollowed := true, recurses := true, named := ["swashplate/parts.store", "swashplate/parts.scrap"], apart := false, laid := [("swashplate/parts.store", laid_swashplate_parts_store), ("swashplate/parts.scrap", laid_swashplate_parts_scrap)] }
def TopFogSaid : Prop := topFogRow.holds Tryz.pinned (OpenSpec.ofChange topFogSpec)

/-- ITS FALSE NEIGHBOUR: 'it returns false'. Refute it at one input. -/
def topFogWrong : ChangeSpec := { name := "topFog", fn := fun _ => fun
  | [d1, d2, d3] => { results := [.lit (.bool false)], args := [d1, d2, d3] }
  | _ => none }
def TopFogWrongFalsely : Prop := topFogRow.holds Tryz.pinned (OpenSpec.ofChange topFogWrong)

/-- 'swashplatetop.TopFlown': WHATEVER THE INPUT: true; the input reads as it did. -/
def topFlownSpec : ChangeSpec := { name := "topFlown", fn := fun _ => fun
  | [d1, d2] => { results := [.lit (.bool true)], args := [d1, d2] }
  | _ => none }
def topFlownRow : OpenClaim := { program := "ytegiclpanpmkdaagreatdoor", sum := "022305ed4c5cd452d4d12acbd2fb15f0a82a1addd58ff0c0b1cd89183bb2f1f3", func := "swashplate/swashplatetop.TopFlown", spec := "topFlown", unfollowed := true, recurses := true, named := ["swashplate/parts.store", "swashplate/parts.scrap"], apart := false, laid := [("swashplate/parts.store", laid_swashplate_parts_store), ("swashplate/parts.scrap", laid_swashplate_parts_scrap)] }
def TopFlownSaid : Prop := topFlownRow.holds Tryz.pinned (OpenSpec.ofChange topFlownSpec)

/-- ITS FALSE NEIGHBOUR: 'it returns false'. Refute it at one input. -/
def topFlownWrong : ChangeSpec := { name := "topFlown", fn := fun _ => fun
  | [d1, d2] => { results := [.lit (.bool false)], args := [d1, d2] }
  | _ => none }
def TopFlownWrongFalsely : Prop := topFlownRow.holds Tryz.pinned (OpenSpec.ofChange topFlownWrong)

/-- 'swashplatetop.TopLess': WHATEVER THE INPUT: true; the input reads as it did. -/
def topLessSpec : ChangeSpec := { name := "topLess", fn := fun _ => fun
  | [d1, d2, d3] => { results := [.lit (.bool true)], args := [d1, d2, d3] }
  | _ => none }
def topLessRow : OpenClaim := { program := "ytegiclpanpmkdaagreatdoor", sum := "022305ed4c5cd452d4d12acbd2fb15f0a82a1addd58ff0c0b1cd89183bb2f1f3", func := "swashplate/swashplatetop.TopLess", spec := "topLess", unfollowed := true, recurses := true, named := ["swashplate/parts.store", "swashplate/parts.scrap"], apart := false, laid := [("swashplate/parts.store", laid_swashplate_parts_store), ("swashplate/parts.scrap", laid_swashplate_parts_scrap)] }
def TopLessSaid : Prop := topLessRow.holds Tryz.pinned (OpenSpec.ofChange topLessSpec)

/-- ITS FALSE NEIGHBOUR: 'it returns false'. Refute it at one input. -/
def topLessWrong : ChangeSpec := { name := "topLess", fn := fun _ => fun
  | [d1, d2, d3] => { results := [.lit (.bool false)], args := [d1, d2, d3] }
  | _ => none }
def TopLessWrongFalsely : Prop := topLessRow.holds Tryz.pinned (OpenSpec.ofChange topLessWrong)

/- THE SECOND FORM. 'bulk': how many values and letters a reading holds, each counted each time it is reached (what is shared counts as often as it is met; a slice's spare places count too). A statement '..UptoSaid' is the law's where the arguments, and the package variables that the reading takes, are together of bulk at most 1048576: NARROWER than '..Said'. Prove '..Said' where nothing that the law and all that it calls make is longer than what came in: it says more and counts as full. Else prove '..UptoSaid'. A law counts once. -/
mutual
def uptoBulk {H : Type} : DataW H → Nat
  | .lit (.string bytes) => bytes.length + 1
  | .lit _ => 1
  | .nil => 1
  | .ptr d => uptoBulk d + 1
  | .slice elems spare => uptoBulkAll elems + uptoBulkAll spare + 1
  | .agg parts => uptoBulkAll parts + 1
  | .iface _ d => uptoBulk d + 1
  | .map entries => uptoBulkEntries entries + 1
  | .held _ => 1
def uptoBulkAll {H : Type} : List (DataW H) → Nat
  | [] => 0
  | d :: r => uptoBulk d + uptoBulkAll r
def uptoBulkEntries {H : Type} : List (Lit × DataW H) → Nat
  | [] => 0
  | x :: r => uptoBulkEntry x + uptoBulkEntries r
def uptoBulkEntry {H : Type} : Lit × DataW H → Nat
  | (.string bytes, d) => bytes.length + uptoBulk d + 1
  | (_, d) => uptoBulk d + 1
 end
def uptoSmall : (H : Type) → List (DataW H) → Bool := fun _ ds => decide (uptoBulkAll ds ≤ 1048576)
def OpenSpec.upto (s : _root_.Go.ChangeSpec) : _root_.Go.OpenSpec := { _root_.Go.OpenSpec.ofChange s with cond := some uptoSmall }

/-- 'swashplatelaw11.FleetBegins', WHERE WHAT IT READS IS OF BULK AT MOST 1048576: true; the input reads as it did. -/
def fleetBeginsUptoRow : OpenClaim := { program := "ytegiclpanpmkdaagreatdoor", sum := "022305ed4c5cd452d4d12acbd2fb15f0a82a1addd58ff0c0b1cd89183bb2f1f3", func := "swashplate/swashplatelaw11.FleetBegins", spec := "fleetBegins", unfollowed := true, recurses := true, named := ["swashplate/parts.store", "swashplate/parts.scrap"], apart := false, laid := [("swashplate/parts.store", laid_swashplate_parts_store), ("swashplate/parts.scrap", laid_swashplate_parts_scrap)], narrowed := true }
def FleetBeginsUptoSaid : Prop := fleetBeginsUptoRow.holds Tryz.pinned (OpenSpec.upto fleetBeginsSpec)

/-- 'swashplatelaw11.FleetOpen', WHERE WHAT IT READS IS OF BULK AT MOST 1048576: true; the input reads as it did. -/
def fleetOpenUptoRow : OpenClaim := { program := "ytegiclpanpmkdaagreatdoor", sum := "022305ed4c5cd452d4d12acbd2fb15f0a82a1addd58ff0c0b1cd89183bb2f1f3", func := "swashplate/swashplatelaw11.FleetOpen", spec := "fleetOpen", unfollowed := true, recurses := true, named := ["swashplate/parts.store", "swashplate/parts.scrap"], apart := false, laid := [("swashplate/parts.store", laid_swashplate_parts_store), ("swashplate/parts.scrap", laid_swashplate_parts_scrap)], narrowed := true }
def FleetOpenUptoSaid : Prop := fleetOpenUptoRow.holds Tryz.pinned (OpenSpec.upto fleetOpenSpec)

/-- 'swashplatelaw11.FleetGap', WHERE WHAT IT READS IS OF BULK AT MOST 1048576: true; the input reads as it did. -/
def fleetGapUptoRow : OpenClaim := { program := "ytegiclpanpmkdaagreatdoor", sum := "022305ed4c5cd452d4d12acbd2fb15f0a82a1addd58ff0c0b1cd89183bb2f1f3", func := "swashplate/swashplatelaw11.FleetGap", spec := "fleetGap", unfollowed := true, recurses := true, named := ["swashplate/parts.store", "swashplate/parts.scrap"], apart := false, laid := [("swashplate/parts.store", laid_swashplate_parts_store), ("swashplate/parts.scrap", laid_swashplate_parts_scrap)], narrowed := true }
def FleetGapUptoSaid : Prop := fleetGapUptoRow.holds Tryz.pinned (OpenSpec.upto fleetGapSpec)

/-- 'swashplatelaw11.FleetAnew', WHERE WHAT IT READS IS OF BULK AT MOST 1048576: true; the input reads as it did. -/
def fleetAnewUptoRow : OpenClaim := { program := "ytegiclpanpmkdaagreatdoor", sum := "022305ed4c5cd452d4d12acbd2fb15f0a82a1addd58ff0c0b1cd89183bb2f1f3", func := "swashplate/swashplatelaw11.FleetAnew", spec := "fleetAnew", unfollowed := true, recurses := true, named := ["swashplate/parts.store", "swashplate/parts.scrap"], apart := false, laid := [("swashplate/parts.store", laid_swashplate_parts_store), ("swashplate/parts.scrap", laid_swashplate_parts_scrap)], narrowed := true }
def FleetAnewUptoSaid : Prop := fleetAnewUptoRow.holds Tryz.pinned (OpenSpec.upto fleetAnewSpec)

/-- 'swashplatetop.TopFog', WHERE WHAT IT READS IS OF BULK AT MOST 1048576: true; the input reads as it did. -/
def topFogUptoRow : OpenClaim := { program := "ytegiclpanpmkdaagreatdoor", sum := "022305ed4c5cd452d4d12acbd2fb15f0a82a1addd58ff0c0b1cd89183bb2f1f3", func := "swashplate/swashplatetop.TopFog", spec := "topFog", unfollowed := true, recurses := true, named := ["swashplate/parts.store", "swashplate/parts.scrap"], apart := false, laid := [("swashplate/parts.store", laid_swashplate_parts_store), ("swashplate/parts.scrap", laid_swashplate_parts_scrap)], narrowed := true }
def TopFogUptoSaid : Prop := topFogUptoRow.holds Tryz.pinned (OpenSpec.upto topFogSpec)

/-- 'swashplatetop.TopFlown', WHERE WHAT IT READS IS OF BULK AT MOST 1048576: true; the input reads as it did. -/
def topFlownUptoRow : OpenClaim := { program := "ytegiclpanpmkdaagreatdoor", sum := "022305ed4c5cd452d4d12acbd2fb15f0a82a1addd58ff0c0b1cd89183bb2f1f3", func := "swashplate/swashplatetop.TopFlown", spec := "topFlown", unfollowed := true, recurses := true, named := ["swashplate/parts.store", "swashplate/parts.scrap"], apart := false, laid := [("swashplate/parts.store", laid_swashplate_parts_store), ("swashplate/parts.scrap", laid_swashplate_parts_scrap)], narrowed := true }
def TopFlownUptoSaid : Prop := topFlownUptoRow.holds Tryz.pinned (OpenSpec.upto topFlownSpec)

/-- 'swashplatetop.TopLess', WHERE WHAT IT READS IS OF BULK AT MOST 1048576: true; the input reads as it did. -/
def topLessUptoRow : OpenClaim := { program := "ytegiclpanpmkdaagreatdoor", sum := "022305ed4c5cd452d4d12acbd2fb15f0a82a1addd58ff0c0b1cd89183bb2f1f3", func := "swashplate/swashplatetop.TopLess", spec := "topLess", unfollowed := true, recurses := true, named := ["swashplate/parts.store", "swashplate/parts.scrap"], apart := false, laid := [("swashplate/parts.store", laid_swashplate_parts_store), ("swashplate/parts.scrap", laid_swashplate_parts_scrap)], narrowed := true }
def TopLessUptoSaid : Prop := topLessUptoRow.holds Tryz.pinned (OpenSpec.upto topLessSpec)

end Rows
end Go.Proofs.YtegiclpanpmkdaaGreatDoor
