/- CrewWets: for every input the law returns true, and its input reads as it did. No conditions. -/
import Derived.Test.YtnpdjaikmdagmaaRows
import Derived.Test.YtnpdjaikmdagmaaP19
import Derived.Test.YtnpdjaikmdagmaaP20
set_option linter.unusedSimpArgs false
set_option linter.unusedVariables false
set_option linter.unusedSectionVars false
set_option maxRecDepth 100000
namespace Go.Proofs.Ytnpdjaikmdagmaa
open Go.Sx Go.ChangeShapes Go.WideShapes Go.ChangeAt Go.RowKit

theorem CrewWets_lifted (os : Os) (started : os.Started) (H : Type) (enc : TypeId × Value → H) :
    ReturnsInHanded {} Try.checked os 3 .any (Rows.crewWetsSpec.pre6 enc Try.prog Try.f3 Rows.crewWetsRow.domain false) (Rows.crewWetsSpec.post enc Try.prog Try.f3 false true false false) := by
  refine law_lifted (C := Try.checked) (fn := Try.f3) (S := trueWetS) started 6 4 (fun _ => rfl) (by kernel_rfl) (by kernel_rfl) (by kernel_rfl) (by kernel_rfl) ok3 rfl ?_ rfl (by kernel_rfl) (by kernel_rfl) ?_
    (ChangeSpec.witness6 (enc := enc) (C := Try.checked) false ⟨#[], #[.slice none 0 0, .int .i64 0], []⟩ 8 (by kernel_rfl) (by kernel_rfl) (by kernel_rfl) (by kernel_rfl))
  · intro ds hd
    have hd' : ds.length = 2 := hd
    match ds, hd' with
    | [d0, d1], _ => rfl
  · intro xs hl hx
    have hl' : xs.length = 2 := hl
    match xs, hl' with
    | [x0, x1], _ =>
      obtain ⟨v0, h0⟩ := gus_of (g := 3) (hx 0 22 x0 rfl rfl)
      obtain ⟨v1, h1⟩ := int_of (g := 5) (hx 1 3 x1 rfl rfl)
      exact ⟨⟨v0, v1⟩, trivial, rfl, by subst h0 h1; rfl⟩
theorem CrewWets_holds : Rows.CrewWetsSaid :=
  OpenClaim.holds_of_wide 3 Try.f3 rfl rfl rfl rfl rfl rfl rfl ⟨rfl, rfl, rfl, rfl, rfl⟩ rfl rfl rfl rfl rfl (by kernel_rfl) (by kernel_rfl) (by kernel_rfl)
    (of_decide_eq_true (by kernel_rfl)) (by unfold Func.isWrapper; first | (rw [if_pos (by decide +kernel)]; kernel_rfl) | (rw [if_neg (by decide +kernel)]; exact ⟨rfl, rfl⟩))
    (fun os started H enc _ => CrewWets_lifted os started H enc)
#print axioms CrewWets_holds
end Go.Proofs.Ytnpdjaikmdagmaa
