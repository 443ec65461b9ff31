/-
  No cell of these rows narrows 'for every input' (looked for: loops, veiled, ifaces, maps, wideKeys, modest, calm, conditions, laid).
  DERIVED. THE GIVEN ROWS OF THIS SEAT. 6 by the template 'for every input the law returns true; each argument reads behind the call as it read before'; 0 by the template 'total and deterministic' (their statements: YtnpdjaikmdagmaaTotals.lean).
  GIVEN WITH THE SEED: the statements are not yours to turn. If you find one false, say at which input.
  Laid BY PROGRAM, IN A SANDBOX (cutbox-rows.mjs): the forced cells as the released guide's own fill.sh prints them over the translation f5049a7167d0f5b9… (all of the seat's roots in one cut). By AI agents, Wed Nov 11 2026. No macro, syntax, notation, axiom, sorry.
-/
import Derived.Test.YtnpdjaikmdagmaaChecked
import GoSem.Claim
import GoSem.ClaimJoined
import GoSem.ClaimMapViews
import Derived.JoinedTies
import Derived.KernelRfl
namespace Go.Proofs.Ytnpdjaikmdagmaa
/- THE CELL 'sum', in the pinned program and in every row, IS THE sha256 OF THE DUMP (.gsa) THAT YtnpdjaikmdagmaaProg.lean LOADS. Nothing in Lean hashes anything: it is a label: what it is worth is what the hold of that sum in a sandbox is worth. -/
noncomputable def Try.pinned : Pinned := { name := "ytnpdjaikmdagmaa", sum := "f5049a7167d0f5b99daff84e7e657e8d720a993123106a5fe3d98c6d0bd4111b", checked := Try.checked }
namespace Rows
def none {H : Type} : Left H := { results := [], args := [] }

/-- 'swashplatelaw10.CrewWets': WHATEVER THE INPUT: true; the input reads as it did. -/
def crewWetsSpec : ChangeSpec := { name := "crewWets", fn := fun _ => fun
  | [d1, d2] => { results := [.lit (.bool true)], args := [d1, d2] }
  | _ => none }
def crewWetsRow : OpenClaim := { program := "ytnpdjaikmdagmaa", sum := "f5049a7167d0f5b99daff84e7e657e8d720a993123106a5fe3d98c6d0bd4111b", func := "swashplate/swashplatelaw10.CrewWets", spec := "crewWets", unfollowed := true, recurses := true, apart := false }
def CrewWetsSaid : Prop := crewWetsRow.holds Try.pinned (OpenSpec.ofChange crewWetsSpec)

/-- ITS FALSE NEIGHBOUR: 'it returns false'. Refute it at one input. -/
def crewWetsWrong : ChangeSpec := { name := "crewWets", fn := fun _ => fun
  | [d1, d2] => { results := [.lit (.bool false)], args := [d1, d2] }
  | _ => none }
def CrewWetsWrongFalsely : Prop := crewWetsRow.holds Try.pinned (OpenSpec.ofChange crewWetsWrong)

/-- 'swashplatelaw10.CrewEasier': WHATEVER THE INPUT: true; the input reads as it did. -/
def crewEasierSpec : ChangeSpec := { name := "crewEasier", fn := fun _ => fun
  | [d1, d2, d3] => { results := [.lit (.bool true)], args := [d1, d2, d3] }
  | _ => none }
def crewEasierRow : OpenClaim := { program := "ytnpdjaikmdagmaa", sum := "f5049a7167d0f5b99daff84e7e657e8d720a993123106a5fe3d98c6d0bd4111b", func := "swashplate/swashplatelaw10.CrewEasier", spec := "crewEasier", unfollowed := true, recurses := true, apart := false }
def CrewEasierSaid : Prop := crewEasierRow.holds Try.pinned (OpenSpec.ofChange crewEasierSpec)

/-- ITS FALSE NEIGHBOUR: 'it returns false'. Refute it at one input. -/
def crewEasierWrong : ChangeSpec := { name := "crewEasier", fn := fun _ => fun
  | [d1, d2, d3] => { results := [.lit (.bool false)], args := [d1, d2, d3] }
  | _ => none }
def CrewEasierWrongFalsely : Prop := crewEasierRow.holds Try.pinned (OpenSpec.ofChange crewEasierWrong)

/-- 'swashplatelaw10.CrewSits': WHATEVER THE INPUT: true; the input reads as it did. -/
def crewSitsSpec : ChangeSpec := { name := "crewSits", fn := fun _ => fun
  | [d1, d2, d3] => { results := [.lit (.bool true)], args := [d1, d2, d3] }
  | _ => none }
def crewSitsRow : OpenClaim := { program := "ytnpdjaikmdagmaa", sum := "f5049a7167d0f5b99daff84e7e657e8d720a993123106a5fe3d98c6d0bd4111b", func := "swashplate/swashplatelaw10.CrewSits", spec := "crewSits", unfollowed := true, recurses := true, apart := false }
def CrewSitsSaid : Prop := crewSitsRow.holds Try.pinned (OpenSpec.ofChange crewSitsSpec)

/-- ITS FALSE NEIGHBOUR: 'it returns false'. Refute it at one input. -/
def crewSitsWrong : ChangeSpec := { name := "crewSits", fn := fun _ => fun
  | [d1, d2, d3] => { results := [.lit (.bool false)], args := [d1, d2, d3] }
  | _ => none }
def CrewSitsWrongFalsely : Prop := crewSitsRow.holds Try.pinned (OpenSpec.ofChange crewSitsWrong)

/-- 'swashplatelaw10.CrewAdds': WHATEVER THE INPUT: true; the input reads as it did. -/
def crewAddsSpec : ChangeSpec := { name := "crewAdds", fn := fun _ => fun
  | [d1, d2, d3] => { results := [.lit (.bool true)], args := [d1, d2, d3] }
  | _ => none }
def crewAddsRow : OpenClaim := { program := "ytnpdjaikmdagmaa", sum := "f5049a7167d0f5b99daff84e7e657e8d720a993123106a5fe3d98c6d0bd4111b", func := "swashplate/swashplatelaw10.CrewAdds", spec := "crewAdds", unfollowed := true, recurses := true, apart := false }
def CrewAddsSaid : Prop := crewAddsRow.holds Try.pinned (OpenSpec.ofChange crewAddsSpec)

/-- ITS FALSE NEIGHBOUR: 'it returns false'. Refute it at one input. -/
def crewAddsWrong : ChangeSpec := { name := "crewAdds", fn := fun _ => fun
  | [d1, d2, d3] => { results := [.lit (.bool false)], args := [d1, d2, d3] }
  | _ => none }
def CrewAddsWrongFalsely : Prop := crewAddsRow.holds Try.pinned (OpenSpec.ofChange crewAddsWrong)

/-- 'swashplatelaw10.CrewFuel': WHATEVER THE INPUT: true; the input reads as it did. -/
def crewFuelSpec : ChangeSpec := { name := "crewFuel", fn := fun _ => fun
  | [d1, d2, d3] => { results := [.lit (.bool true)], args := [d1, d2, d3] }
  | _ => none }
def crewFuelRow : OpenClaim := { program := "ytnpdjaikmdagmaa", sum := "f5049a7167d0f5b99daff84e7e657e8d720a993123106a5fe3d98c6d0bd4111b", func := "swashplate/swashplatelaw10.CrewFuel", spec := "crewFuel", unfollowed := true, recurses := true, apart := false }
def CrewFuelSaid : Prop := crewFuelRow.holds Try.pinned (OpenSpec.ofChange crewFuelSpec)

/-- ITS FALSE NEIGHBOUR: 'it returns false'. Refute it at one input. -/
def crewFuelWrong : ChangeSpec := { name := "crewFuel", fn := fun _ => fun
  | [d1, d2, d3] => { results := [.lit (.bool false)], args := [d1, d2, d3] }
  | _ => none }
def CrewFuelWrongFalsely : Prop := crewFuelRow.holds Try.pinned (OpenSpec.ofChange crewFuelWrong)

/-- 'swashplatelaw10.CrewLoads': WHATEVER THE INPUT: true; the input reads as it did. -/
def crewLoadsSpec : ChangeSpec := { name := "crewLoads", fn := fun _ => fun
  | [d1, d2, d3] => { results := [.lit (.bool true)], args := [d1, d2, d3] }
  | _ => none }
def crewLoadsRow : OpenClaim := { program := "ytnpdjaikmdagmaa", sum := "f5049a7167d0f5b99daff84e7e657e8d720a993123106a5fe3d98c6d0bd4111b", func := "swashplate/swashplatelaw10.CrewLoads", spec := "crewLoads", unfollowed := true, recurses := true, apart := false }
def CrewLoadsSaid : Prop := crewLoadsRow.holds Try.pinned (OpenSpec.ofChange crewLoadsSpec)

/-- ITS FALSE NEIGHBOUR: 'it returns false'. Refute it at one input. -/
def crewLoadsWrong : ChangeSpec := { name := "crewLoads", fn := fun _ => fun
  | [d1, d2, d3] => { results := [.lit (.bool false)], args := [d1, d2, d3] }
  | _ => none }
def CrewLoadsWrongFalsely : Prop := crewLoadsRow.holds Try.pinned (OpenSpec.ofChange crewLoadsWrong)

/- THE SECOND FORM. 'bulk': how many values and letters a reading holds, each counted each time it is reached (what is shared counts as often as it is met; a slice's spare places count too). A statement '..UptoSaid' is the law's where the arguments, and the package variables that the reading takes, are together of bulk at most 1048576: NARROWER than '..Said'. Prove '..Said' where nothing that the law and all that it calls make is longer than what came in: it says more and counts as full. Else prove '..UptoSaid'. A law counts once. -/
mutual
def uptoBulk {H : Type} : DataW H → Nat
  | .lit (.string bytes) => bytes.length + 1
  | .lit _ => 1
  | .nil => 1
  | .ptr d => uptoBulk d + 1
  | .slice elems spare => uptoBulkAll elems + uptoBulkAll spare + 1
  | .agg parts => uptoBulkAll parts + 1
  | .iface _ d => uptoBulk d + 1
  | .map entries => uptoBulkEntries entries + 1
  | .held _ => 1
def uptoBulkAll {H : Type} : List (DataW H) → Nat
  | [] => 0
  | d :: r => uptoBulk d + uptoBulkAll r
def uptoBulkEntries {H : Type} : List (Lit × DataW H) → Nat
  | [] => 0
  | x :: r => uptoBulkEntry x + uptoBulkEntries r
def uptoBulkEntry {H : Type} : Lit × DataW H → Nat
  | (.string bytes, d) => bytes.length + uptoBulk d + 1
  | (_, d) => uptoBulk d + 1
 end
def uptoSmall : (H : Type) → List (DataW H) → Bool := fun _ ds => decide (uptoBulkAll ds ≤ 1048576)
def OpenSpec.upto (s : _root_.Go.ChangeSpec) : _root_.Go.OpenSpec := { _root_.Go.OpenSpec.ofChange s with cond := some uptoSmall }

/-- 'swashplatelaw10.CrewWets', WHERE WHAT IT READS IS OF BULK AT MOST 1048576: true; the input reads as it did. -/
def crewWetsUptoRow : OpenClaim := { program := "ytnpdjaikmdagmaa", sum := "f5049a7167d0f5b99daff84e7e657e8d720a993123106a5fe3d98c6d0bd4111b", func := "swashplate/swashplatelaw10.CrewWets", spec := "crewWets", unfollowed := true, recurses := true, apart := false, narrowed := true }
def CrewWetsUptoSaid : Prop := crewWetsUptoRow.holds Try.pinned (OpenSpec.upto crewWetsSpec)

/-- 'swashplatelaw10.CrewEasier', WHERE WHAT IT READS IS OF BULK AT MOST 1048576: true; the input reads as it did. -/
def crewEasierUptoRow : OpenClaim := { program := "ytnpdjaikmdagmaa", sum := "f5049a7167d0f5b99daff84e7e657e8d720a993123106a5fe3d98c6d0bd4111b", func := "swashplate/swashplatelaw10.CrewEasier", spec := "crewEasier", unfollowed := true, recurses := true, apart := false, narrowed := true }
def CrewEasierUptoSaid : Prop := crewEasierUptoRow.holds Try.pinned (OpenSpec.upto crewEasierSpec)

/-- 'swashplatelaw10.CrewSits', WHERE WHAT IT READS IS OF BULK AT MOST 1048576: true; the input reads as it did. -/
def crewSitsUptoRow : OpenClaim := { program := "ytnpdjaikmdagmaa", sum := "f5049a7167d0f5b99daff84e7e657e8d720a993123106a5fe3d98c6d0bd4111b", func := "swashplate/swashplatelaw10.CrewSits", spec := "crewSits", unfollowed := true, recurses := true, apart := false, narrowed := true }
def CrewSitsUptoSaid : Prop := crewSitsUptoRow.holds Try.pinned (OpenSpec.upto crewSitsSpec)

/-- 'swashplatelaw10.CrewAdds', WHERE WHAT IT READS IS OF BULK AT MOST 1048576: true; the input reads as it did. -/
def crewAddsUptoRow : OpenClaim := { program := "ytnpdjaikmdagmaa", sum := "f5049a7167d0f5b99daff84e7e657e8d720a993123106a5fe3d98c6d0bd4111b", func := "swashplate/swashplatelaw10.CrewAdds", spec := "crewAdds", unfollowed := true, recurses := true, apart := false, narrowed := true }
def CrewAddsUptoSaid : Prop := crewAddsUptoRow.holds Try.pinned (OpenSpec.upto crewAddsSpec)

/-- 'swashplatelaw10.CrewFuel', WHERE WHAT IT READS IS OF BULK AT MOST 1048576: true; the input reads as it did. -/
def crewFuelUptoRow : OpenClaim := { program := "ytnpdjaikmdagmaa", sum := "f5049a7167d0f5b99daff84e7e657e8d720a993123106a5fe3d98c6d0bd4111b", func := "swashplate/swashplatelaw10.CrewFuel", spec := "crewFuel", unfollowed := true, recurses := true, apart := false, narrowed := true }
def CrewFuelUptoSaid : Prop := crewFuelUptoRow.holds Try.pinned (OpenSpec.upto crewFuelSpec)

/-- 'swashplatelaw10.CrewLoads', WHERE WHAT IT READS IS OF BULK AT MOST 1048576: true; the input reads as it did. -/
def crewLoadsUptoRow : OpenClaim := { program := "ytnpdjaikmdagmaa", sum := "f5049a7167d0f5b99daff84e7e657e8d720a993123106a5fe3d98c6d0bd4111b", func := "swashplate/swashplatelaw10.CrewLoads", spec := "crewLoads", unfollowed := true, recurses := true, apart := false, narrowed := true }
def CrewLoadsUptoSaid : Prop := crewLoadsUptoRow.holds Try.pinned (OpenSpec.upto crewLoadsSpec)

end Rows
end Go.Proofs.Ytnpdjaikmdagmaa
