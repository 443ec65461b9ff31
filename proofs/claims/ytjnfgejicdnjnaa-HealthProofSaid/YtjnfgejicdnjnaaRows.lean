/-
  No cell of these rows narrows 'for every input' (looked for: loops, veiled, ifaces, maps, wideKeys, modest, calm, conditions, laid).
  DERIVED. THE GIVEN ROWS OF THIS SEAT. 12 by the template 'for every input the law returns true; each argument reads behind the call as it read before'; 0 by the template 'total and deterministic' (their statements: YtjnfgejicdnjnaaTotals.lean).
  GIVEN WITH THE SEED: the statements are not yours to turn. If you find one false, say at which input.
  Laid BY PROGRAM, IN A SANDBOX (cutbox-rows.mjs): the forced cells as the released guide's own fill.sh prints them over the translation 8349e361bfca2e5f… (all of the seat's roots in one cut). By AI agents, Wed Nov 11 2026. No macro, syntax, notation, axiom, sorry.
-/
import Derived.Test.YtjnfgejicdnjnaaChecked
import GoSem.Claim
import GoSem.ClaimJoined
import GoSem.ClaimMapViews
import Derived.JoinedTies
import Derived.KernelRfl
namespace Go.Proofs.Ytjnfgejicdnjnaa
/- THE CELL 'sum', in the pinned program and in every row, IS THE sha256 OF THE DUMP (.gsa) THAT YtjnfgejicdnjnaaProg.lean LOADS. Nothing in Lean hashes anything: it is a label: what it is worth is what the hold of that sum in a sandbox is worth. -/
noncomputable def Try.pinned : Pinned := { name := "ytjnfgejicdnjnaa", sum := "8349e361bfca2e5fdfa333b7dfea3ad78088de0a4f0ea9c3e6cf9acf94f443a3", checked := Try.checked }
namespace Rows
def none {H : Type} : Left H := { results := [], args := [] }

/-- 'swashplatelaw08.HealthTrends': WHATEVER THE INPUT: true; the input reads as it did. -/
def healthTrendsSpec : ChangeSpec := { name := "healthTrends", fn := fun _ => fun
  | [d] => { results := [.lit (.bool true)], args := [d] }
  | _ => none }
def healthTrendsRow : OpenClaim := { program := "ytjnfgejicdnjnaa", sum := "8349e361bfca2e5fdfa333b7dfea3ad78088de0a4f0ea9c3e6cf9acf94f443a3", func := "swashplate/swashplatelaw08.HealthTrends", spec := "healthTrends", unfollowed := true, recurses := true, apart := false }
def HealthTrendsSaid : Prop := healthTrendsRow.holds Try.pinned (OpenSpec.ofChange healthTrendsSpec)

/-- ITS FALSE NEIGHBOUR: 'it returns false'. Refute it at one input. -/
def healthTrendsWrong : ChangeSpec := { name := "healthTrends", fn := fun _ => fun
  | [d] => { results := [.lit (.bool false)], args := [d] }
  | _ => none }
def HealthTrendsWrongFalsely : Prop := healthTrendsRow.holds Try.pinned (OpenSpec.ofChange healthTrendsWrong)

/-- 'swashplatelaw08.HealthCrests': WHATEVER THE INPUT: true; the input reads as it did. -/
def healthCrestsSpec : ChangeSpec := { name := "healthCrests", fn := fun _ => fun
  | [d1, d2] => { results := [.lit (.bool true)], args := [d1, d2] }
  | _ => none }
def healthCrestsRow : OpenClaim := { program := "ytjnfgejicdnjnaa", sum := "8349e361bfca2e5fdfa333b7dfea3ad78088de0a4f0ea9c3e6cf9acf94f443a3", func := "swashplate/swashplatelaw08.HealthCrests", spec := "healthCrests", unfollowed := true, recurses := true, apart := false }
def HealthCrestsSaid : Prop := healthCrestsRow.holds Try.pinned (OpenSpec.ofChange healthCrestsSpec)

/-- ITS FALSE NEIGHBOUR: 'it returns false'. Refute it at one input. -/
def healthCrestsWrong : ChangeSpec := { name := "healthCrests", fn := fun _ => fun
  | [d1, d2] => { results := [.lit (.bool false)], args := [d1, d2] }
  | _ => none }
def HealthCrestsWrongFalsely : Prop := healthCrestsRow.holds Try.pinned (OpenSpec.ofChange healthCrestsWrong)

/-- 'swashplatelaw08.HealthAlarms': WHATEVER THE INPUT: true; the input reads as it did. -/
def healthAlarmsSpec : ChangeSpec := { name := "healthAlarms", fn := fun _ => fun
  | [d1, d2] => { results := [.lit (.bool true)], args := [d1, d2] }
  | _ => none }
def healthAlarmsRow : OpenClaim := { program := "ytjnfgejicdnjnaa", sum := "8349e361bfca2e5fdfa333b7dfea3ad78088de0a4f0ea9c3e6cf9acf94f443a3", func := "swashplate/swashplatelaw08.HealthAlarms", spec := "healthAlarms", unfollowed := true, recurses := true, apart := false }
def HealthAlarmsSaid : Prop := healthAlarmsRow.holds Try.pinned (OpenSpec.ofChange healthAlarmsSpec)

/-- ITS FALSE NEIGHBOUR: 'it returns false'. Refute it at one input. -/
def healthAlarmsWrong : ChangeSpec := { name := "healthAlarms", fn := fun _ => fun
  | [d1, d2] => { results := [.lit (.bool false)], args := [d1, d2] }
  | _ => none }
def HealthAlarmsWrongFalsely : Prop := healthAlarmsRow.holds Try.pinned (OpenSpec.ofChange healthAlarmsWrong)

/-- 'swashplatelaw08.HealthChanges': WHATEVER THE INPUT: true; the input reads as it did. -/
def healthChangesSpec : ChangeSpec := { name := "healthChanges", fn := fun _ => fun
  | [d1, d2, d3] => { results := [.lit (.bool true)], args := [d1, d2, d3] }
  | _ => none }
def healthChangesRow : OpenClaim := { program := "ytjnfgejicdnjnaa", sum := "8349e361bfca2e5fdfa333b7dfea3ad78088de0a4f0ea9c3e6cf9acf94f443a3", func := "swashplate/swashplatelaw08.HealthChanges", spec := "healthChanges", unfollowed := true, recurses := true, apart := false }
def HealthChangesSaid : Prop := healthChangesRow.holds Try.pinned (OpenSpec.ofChange healthChangesSpec)

/-- ITS FALSE NEIGHBOUR: 'it returns false'. Refute it at one input. -/
def healthChangesWrong : ChangeSpec := { name := "healthChanges", fn := fun _ => fun
  | [d1, d2, d3] => { results := [.lit (.bool false)], args := [d1, d2, d3] }
  | _ => none }
def HealthChangesWrongFalsely : Prop := healthChangesRow.holds Try.pinned (OpenSpec.ofChange healthChangesWrong)

/-- 'swashplatelaw08.HealthLoose': WHATEVER THE INPUT: true; the input reads as it did. -/
def healthLooseSpec : ChangeSpec := { name := "healthLoose", fn := fun _ => fun
  | [d1, d2, d3] => { results := [.lit (.bool true)], args := [d1, d2, d3] }
  | _ => none }
def healthLooseRow : OpenClaim := { program := "ytjnfgejicdnjnaa", sum := "8349e361bfca2e5fdfa333b7dfea3ad78088de0a4f0ea9c3e6cf9acf94f443a3", func := "swashplate/swashplatelaw08.HealthLoose", spec := "healthLoose", unfollowed := true, recurses := true, apart := false }
def HealthLooseSaid : Prop := healthLooseRow.holds Try.pinned (OpenSpec.ofChange healthLooseSpec)

/-- ITS FALSE NEIGHBOUR: 'it returns false'. Refute it at one input. -/
def healthLooseWrong : ChangeSpec := { name := "healthLoose", fn := fun _ => fun
  | [d1, d2, d3] => { results := [.lit (.bool false)], args := [d1, d2, d3] }
  | _ => none }
def HealthLooseWrongFalsely : Prop := healthLooseRow.holds Try.pinned (OpenSpec.ofChange healthLooseWrong)

/-- 'swashplatelaw08.HealthReason': WHATEVER THE INPUT: true; the input reads as it did. -/
def healthReasonSpec : ChangeSpec := { name := "healthReason", fn := fun _ => fun
  | [d1, d2] => { results := [.lit (.bool true)], args := [d1, d2] }
  | _ => none }
def healthReasonRow : OpenClaim := { program := "ytjnfgejicdnjnaa", sum := "8349e361bfca2e5fdfa333b7dfea3ad78088de0a4f0ea9c3e6cf9acf94f443a3", func := "swashplate/swashplatelaw08.HealthReason", spec := "healthReason", unfollowed := true, recurses := true, apart := false }
def HealthReasonSaid : Prop := healthReasonRow.holds Try.pinned (OpenSpec.ofChange healthReasonSpec)

/-- ITS FALSE NEIGHBOUR: 'it returns false'. Refute it at one input. -/
def healthReasonWrong : ChangeSpec := { name := "healthReason", fn := fun _ => fun
  | [d1, d2] => { results := [.lit (.bool false)], args := [d1, d2] }
  | _ => none }
def HealthReasonWrongFalsely : Prop := healthReasonRow.holds Try.pinned (OpenSpec.ofChange healthReasonWrong)

/-- 'swashplatelaw08.HealthExplains': WHATEVER THE INPUT: true; the input reads as it did. -/
def healthExplainsSpec : ChangeSpec := { name := "healthExplains", fn := fun _ => fun
  | [d1, d2] => { results := [.lit (.bool true)], args := [d1, d2] }
  | _ => none }
def healthExplainsRow : OpenClaim := { program := "ytjnfgejicdnjnaa", sum := "8349e361bfca2e5fdfa333b7dfea3ad78088de0a4f0ea9c3e6cf9acf94f443a3", func := "swashplate/swashplatelaw08.HealthExplains", spec := "healthExplains", unfollowed := true, recurses := true, apart := false }
def HealthExplainsSaid : Prop := healthExplainsRow.holds Try.pinned (OpenSpec.ofChange healthExplainsSpec)

/-- ITS FALSE NEIGHBOUR: 'it returns false'. Refute it at one input. -/
def healthExplainsWrong : ChangeSpec := { name := "healthExplains", fn := fun _ => fun
  | [d1, d2] => { results := [.lit (.bool false)], args := [d1, d2] }
  | _ => none }
def HealthExplainsWrongFalsely : Prop := healthExplainsRow.holds Try.pinned (OpenSpec.ofChange healthExplainsWrong)

/-- 'swashplatelaw08.HealthAverages': WHATEVER THE INPUT: true; the input reads as it did. -/
def healthAveragesSpec : ChangeSpec := { name := "healthAverages", fn := fun _ => fun
  | [d1, d2] => { results := [.lit (.bool true)], args := [d1, d2] }
  | _ => none }
def healthAveragesRow : OpenClaim := { program := "ytjnfgejicdnjnaa", sum := "8349e361bfca2e5fdfa333b7dfea3ad78088de0a4f0ea9c3e6cf9acf94f443a3", func := "swashplate/swashplatelaw08.HealthAverages", spec := "healthAverages", unfollowed := true, recurses := true, apart := false }
def HealthAveragesSaid : Prop := healthAveragesRow.holds Try.pinned (OpenSpec.ofChange healthAveragesSpec)

/-- ITS FALSE NEIGHBOUR: 'it returns false'. Refute it at one input. -/
def healthAveragesWrong : ChangeSpec := { name := "healthAverages", fn := fun _ => fun
  | [d1, d2] => { results := [.lit (.bool false)], args := [d1, d2] }
  | _ => none }
def HealthAveragesWrongFalsely : Prop := healthAveragesRow.holds Try.pinned (OpenSpec.ofChange healthAveragesWrong)

/-- 'swashplatelaw08.HealthLinear': WHATEVER THE INPUT: true; the input reads as it did. -/
def healthLinearSpec : ChangeSpec := { name := "healthLinear", fn := fun _ => fun
  | [d1, d2, d3] => { results := [.lit (.bool true)], args := [d1, d2, d3] }
  | _ => none }
def healthLinearRow : OpenClaim := { program := "ytjnfgejicdnjnaa", sum := "8349e361bfca2e5fdfa333b7dfea3ad78088de0a4f0ea9c3e6cf9acf94f443a3", func := "swashplate/swashplatelaw08.HealthLinear", spec := "healthLinear", unfollowed := true, recurses := true, apart := false }
def HealthLinearSaid : Prop := healthLinearRow.holds Try.pinned (OpenSpec.ofChange healthLinearSpec)

/-- ITS FALSE NEIGHBOUR: 'it returns false'. Refute it at one input. -/
def healthLinearWrong : ChangeSpec := { name := "healthLinear", fn := fun _ => fun
  | [d1, d2, d3] => { results := [.lit (.bool false)], args := [d1, d2, d3] }
  | _ => none }
def HealthLinearWrongFalsely : Prop := healthLinearRow.holds Try.pinned (OpenSpec.ofChange healthLinearWrong)

/-- 'swashplatelaw08.HealthTeeth': WHATEVER THE INPUT: true; the input reads as it did. -/
def healthTeethSpec : ChangeSpec := { name := "healthTeeth", fn := fun _ => fun
  | [d1, d2, d3] => { results := [.lit (.bool true)], args := [d1, d2, d3] }
  | _ => none }
def healthTeethRow : OpenClaim := { program := "ytjnfgejicdnjnaa", sum := "8349e361bfca2e5fdfa333b7dfea3ad78088de0a4f0ea9c3e6cf9acf94f443a3", func := "swashplate/swashplatelaw08.HealthTeeth", spec := "healthTeeth", unfollowed := true, recurses := true, apart := false }
def HealthTeethSaid : Prop := healthTeethRow.holds Try.pinned (OpenSpec.ofChange healthTeethSpec)

/-- ITS FALSE NEIGHBOUR: 'it returns false'. Refute it at one input. -/
def healthTeethWrong : ChangeSpec := { name := "healthTeeth", fn := fun _ => fun
  | [d1, d2, d3] => { results := [.lit (.bool false)], args := [d1, d2, d3] }
  | _ => none }
def HealthTeethWrongFalsely : Prop := healthTeethRow.holds Try.pinned (OpenSpec.ofChange healthTeethWrong)

/-- 'swashplatelaw08.HealthWhole': WHATEVER THE INPUT: true; the input reads as it did. -/
def healthWholeSpec : ChangeSpec := { name := "healthWhole", fn := fun _ => fun
  | [d1, d2] => { results := [.lit (.bool true)], args := [d1, d2] }
  | _ => none }
def healthWholeRow : OpenClaim := { program := "ytjnfgejicdnjnaa", sum := "8349e361bfca2e5fdfa333b7dfea3ad78088de0a4f0ea9c3e6cf9acf94f443a3", func := "swashplate/swashplatelaw08.HealthWhole", spec := "healthWhole", unfollowed := true, recurses := true, apart := false }
def HealthWholeSaid : Prop := healthWholeRow.holds Try.pinned (OpenSpec.ofChange healthWholeSpec)

/-- ITS FALSE NEIGHBOUR: 'it returns false'. Refute it at one input. -/
def healthWholeWrong : ChangeSpec := { name := "healthWhole", fn := fun _ => fun
  | [d1, d2] => { results := [.lit (.bool false)], args := [d1, d2] }
  | _ => none }
def HealthWholeWrongFalsely : Prop := healthWholeRow.holds Try.pinned (OpenSpec.ofChange healthWholeWrong)

/-- 'swashplatelaw08.HealthProof': WHATEVER THE INPUT: true; the input reads as it did. -/
def healthProofSpec : ChangeSpec := { name := "healthProof", fn := fun _ => fun
  | [d1, d2, d3] => { results := [.lit (.bool true)], args := [d1, d2, d3] }
  | _ => none }
def healthProofRow : OpenClaim := { program := "ytjnfgejicdnjnaa", sum := "8349e361bfca2e5fdfa333b7dfea3ad78088de0a4f0ea9c3e6cf9acf94f443a3", func := "swashplate/swashplatelaw08.HealthProof", spec := "healthProof", unfollowed := true, recurses := true, apart := false }
def HealthProofSaid : Prop := healthProofRow.holds Try.pinned (OpenSpec.ofChange healthProofSpec)

/-- ITS FALSE NEIGHBOUR: 'it returns false'. Refute it at one input. -/
def healthProofWrong : ChangeSpec := { name := "healthProof", fn := fun _ => fun
  | [d1, d2, d3] => { results := [.lit (.bool false)], args := [d1, d2, d3] }
  | _ => none }
def HealthProofWrongFalsely : Prop := healthProofRow.holds Try.pinned (OpenSpec.ofChange healthProofWrong)

/- THE SECOND FORM. 'bulk': how many values and letters a reading holds, each counted each time it is reached (what is shared counts as often as it is met; a slice's spare places count too). A statement '..UptoSaid' is the law's where the arguments, and the package variables that the reading takes, are together of bulk at most 1048576: NARROWER than '..Said'. Prove '..Said' where nothing that the law and all that it calls make is longer than what came in: it says more and counts as full. Else prove '..UptoSaid'. A law counts once. -/
mutual
def uptoBulk {H : Type} : DataW H → Nat
  | .lit (.string bytes) => bytes.length + 1
  | .lit _ => 1
  | .nil => 1
  | .ptr d => uptoBulk d + 1
  | .slice elems spare => uptoBulkAll elems + uptoBulkAll spare + 1
  | .agg parts => uptoBulkAll parts + 1
  | .iface _ d => uptoBulk d + 1
  | .map entries => uptoBulkEntries entries + 1
  | .held _ => 1
def uptoBulkAll {H : Type} : List (DataW H) → Nat
  | [] => 0
  | d :: r => uptoBulk d + uptoBulkAll r
def uptoBulkEntries {H : Type} : List (Lit × DataW H) → Nat
  | [] => 0
  | x :: r => uptoBulkEntry x + uptoBulkEntries r
def uptoBulkEntry {H : Type} : Lit × DataW H → Nat
  | (.string bytes, d) => bytes.length + uptoBulk d + 1
  | (_, d) => uptoBulk d + 1
 end
def uptoSmall : (H : Type) → List (DataW H) → Bool := fun _ ds => decide (uptoBulkAll ds ≤ 1048576)
def OpenSpec.upto (s : _root_.Go.ChangeSpec) : _root_.Go.OpenSpec := { _root_.Go.OpenSpec.ofChange s with cond := some uptoSmall }

/-- 'swashplatelaw08.HealthTrends', WHERE WHAT IT READS IS OF BULK AT MOST 1048576: true; the input reads as it did. -/
def healthTrendsUptoRow : OpenClaim := { program := "ytjnfgejicdnjnaa", sum := "8349e361bfca2e5fdfa333b7dfea3ad78088de0a4f0ea9c3e6cf9acf94f443a3", func := "swashplate/swashplatelaw08.HealthTrends", spec := "healthTrends", unfollowed := true, recurses := true, apart := false, narrowed := true }
def HealthTrendsUptoSaid : Prop := healthTrendsUptoRow.holds Try.pinned (OpenSpec.upto healthTrendsSpec)

/-- 'swashplatelaw08.HealthCrests', WHERE WHAT IT READS IS OF BULK AT MOST 1048576: true; the input reads as it did. -/
def healthCrestsUptoRow : OpenClaim := { program := "ytjnfgejicdnjnaa", sum := "8349e361bfca2e5fdfa333b7dfea3ad78088de0a4f0ea9c3e6cf9acf94f443a3", func := "swashplate/swashplatelaw08.HealthCrests", spec := "healthCrests", unfollowed := true, recurses := true, apart := false, narrowed := true }
def HealthCrestsUptoSaid : Prop := healthCrestsUptoRow.holds Try.pinned (OpenSpec.upto healthCrestsSpec)

/-- 'swashplatelaw08.HealthAlarms', WHERE WHAT IT READS IS OF BULK AT MOST 1048576: true; the input reads as it did. -/
def healthAlarmsUptoRow : OpenClaim := { program := "ytjnfgejicdnjnaa", sum := "8349e361bfca2e5fdfa333b7dfea3ad78088de0a4f0ea9c3e6cf9acf94f443a3", func := "swashplate/swashplatelaw08.HealthAlarms", spec := "healthAlarms", unfollowed := true, recurses := true, apart := false, narrowed := true }
def HealthAlarmsUptoSaid : Prop := healthAlarmsUptoRow.holds Try.pinned (OpenSpec.upto healthAlarmsSpec)

/-- 'swashplatelaw08.HealthChanges', WHERE WHAT IT READS IS OF BULK AT MOST 1048576: true; the input reads as it did. -/
def healthChangesUptoRow : OpenClaim := { program := "ytjnfgejicdnjnaa", sum := "8349e361bfca2e5fdfa333b7dfea3ad78088de0a4f0ea9c3e6cf9acf94f443a3", func := "swashplate/swashplatelaw08.HealthChanges", spec := "healthChanges", unfollowed := true, recurses := true, apart := false, narrowed := true }
def HealthChangesUptoSaid : Prop := healthChangesUptoRow.holds Try.pinned (OpenSpec.upto healthChangesSpec)

/-- 'swashplatelaw08.HealthLoose', WHERE WHAT IT READS IS OF BULK AT MOST 1048576: true; the input reads as it did. -/
def healthLooseUptoRow : OpenClaim := { program := "ytjnfgejicdnjnaa", sum := "8349e361bfca2e5fdfa333b7dfea3ad78088de0a4f0ea9c3e6cf9acf94f443a3", func := "swashplate/swashplatelaw08.HealthLoose", spec := "healthLoose", unfollowed := true, recurses := true, apart := false, narrowed := true }
def HealthLooseUptoSaid : Prop := healthLooseUptoRow.holds Try.pinned (OpenSpec.upto healthLooseSpec)

/-- 'swashplatelaw08.HealthReason', WHERE WHAT IT READS IS OF BULK AT MOST 1048576: true; the input reads as it did. -/
def healthReasonUptoRow : OpenClaim := { program := "ytjnfgejicdnjnaa", sum := "8349e361bfca2e5fdfa333b7dfea3ad78088de0a4f0ea9c3e6cf9acf94f443a3", func := "swashplate/swashplatelaw08.HealthReason", spec := "healthReason", unfollowed := true, recurses := true, apart := false, narrowed := true }
def HealthReasonUptoSaid : Prop := healthReasonUptoRow.holds Try.pinned (OpenSpec.upto healthReasonSpec)

/-- 'swashplatelaw08.HealthExplains', WHERE WHAT IT READS IS OF BULK AT MOST 1048576: true; the input reads as it did. -/
def healthExplainsUptoRow : OpenClaim := { program := "ytjnfgejicdnjnaa", sum := "8349e361bfca2e5fdfa333b7dfea3ad78088de0a4f0ea9c3e6cf9acf94f443a3", func := "swashplate/swashplatelaw08.HealthExplains", spec := "healthExplains", unfollowed := true, recurses := true, apart := false, narrowed := true }
def HealthExplainsUptoSaid : Prop := healthExplainsUptoRow.holds Try.pinned (OpenSpec.upto healthExplainsSpec)

/-- 'swashplatelaw08.HealthAverages', WHERE WHAT IT READS IS OF BULK AT MOST 1048576: true; the input reads as it did. -/
def healthAveragesUptoRow : OpenClaim := { program := "ytjnfgejicdnjnaa", sum := "8349e361bfca2e5fdfa333b7dfea3ad78088de0a4f0ea9c3e6cf9acf94f443a3", func := "swashplate/swashplatelaw08.HealthAverages", spec := "healthAverages", unfollowed := true, recurses := true, apart := false, narrowed := true }
def HealthAveragesUptoSaid : Prop := healthAveragesUptoRow.holds Try.pinned (OpenSpec.upto healthAveragesSpec)

/-- 'swashplatelaw08.HealthLinear', WHERE WHAT IT READS IS OF BULK AT MOST 1048576: true; the input reads as it did. -/
def healthLinearUptoRow : OpenClaim := { program := "ytjnfgejicdnjnaa", sum := "8349e361bfca2e5fdfa333b7dfea3ad78088de0a4f0ea9c3e6cf9acf94f443a3", func := "swashplate/swashplatelaw08.HealthLinear", spec := "healthLinear", unfollowed := true, recurses := true, apart := false, narrowed := true }
def HealthLinearUptoSaid : Prop := healthLinearUptoRow.holds Try.pinned (OpenSpec.upto healthLinearSpec)

/-- 'swashplatelaw08.HealthTeeth', WHERE WHAT IT READS IS OF BULK AT MOST 1048576: true; the input reads as it did. -/
def healthTeethUptoRow : OpenClaim := { program := "ytjnfgejicdnjnaa", sum := "8349e361bfca2e5fdfa333b7dfea3ad78088de0a4f0ea9c3e6cf9acf94f443a3", func := "swashplate/swashplatelaw08.HealthTeeth", spec := "healthTeeth", unfollowed := true, recurses := true, apart := false, narrowed := true }
def HealthTeethUptoSaid : Prop := healthTeethUptoRow.holds Try.pinned (OpenSpec.upto healthTeethSpec)

/-- 'swashplatelaw08.HealthWhole', WHERE WHAT IT READS IS OF BULK AT MOST 1048576: true; the input reads as it did. -/
def healthWholeUptoRow : OpenClaim := { program := "ytjnfgejicdnjnaa", sum := "8349e361bfca2e5fdfa333b7dfea3ad78088de0a4f0ea9c3e6cf9acf94f443a3", func := "swashplate/swashplatelaw08.HealthWhole", spec := "healthWhole", unfollowed := true, recurses := true, apart := false, narrowed := true }
def HealthWholeUptoSaid : Prop := healthWholeUptoRow.holds Try.pinned (OpenSpec.upto healthWholeSpec)

/-- 'swashplatelaw08.HealthProof', WHERE WHAT IT READS IS OF BULK AT MOST 1048576: true; the input reads as it did. -/
def healthProofUptoRow : OpenClaim := { program := "ytjnfgejicdnjnaa", sum := "8349e361bfca2e5fdfa333b7dfea3ad78088de0a4f0ea9c3e6cf9acf94f443a3", func := "swashplate/swashplatelaw08.HealthProof", spec := "healthProof", unfollowed := true, recurses := true, apart := false, narrowed := true }
def HealthProofUptoSaid : Prop := healthProofUptoRow.holds Try.pinned (OpenSpec.upto healthProofSpec)

end Rows
end Go.Proofs.Ytjnfgejicdnjnaa
