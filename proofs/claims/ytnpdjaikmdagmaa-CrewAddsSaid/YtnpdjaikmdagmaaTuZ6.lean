/- CrewAdds: for every input the law returns true, and its input reads as it did. No conditions. -/
import Derived.Test.YtnpdjaikmdagmaaRows
import Derived.Test.YtnpdjaikmdagmaaP21
import Derived.Test.YtnpdjaikmdagmaaP19
set_option linter.unusedSimpArgs false
set_option linter.unusedVariables false
set_option linter.unusedSectionVars false
set_option maxRecDepth 100000
namespace Go.Proofs.Ytnpdjaikmdagmaa
open Go.Sx Go.ChangeShapes Go.WideShapes Go.ChangeAt Go.RowKit

theorem CrewAdds_lifted (os : Os) (started : os.Started) (H : Type) (enc : TypeId × Value → H) :
    ReturnsInHanded {} Try.checked os 6 .any (Rows.crewAddsSpec.pre6 enc Try.prog Try.f6 Rows.crewAddsRow.domain false) (Rows.crewAddsSpec.post enc Try.prog Try.f6 false true false false) := by
  refine law_lifted (C := Try.checked) (fn := Try.f6) (S := trueAddS) started 6 4 (fun _ => rfl) (by kernel_rfl) (by kernel_rfl) (by kernel_rfl) (by kernel_rfl) ok6 rfl ?_ rfl (by kernel_rfl) (by kernel_rfl) ?_
    (ChangeSpec.witness6 (enc := enc) (C := Try.checked) false ⟨#[], #[.agg #[.slice none 0 0, .int .i64 0, .int .i64 0, .int .i64 0, .int .i64 0, .int .i64 0], .slice none 0 0, .agg #[.int .i64 0, .int .i64 0, .int .i64 0, .bool false]], []⟩ 8 (by kernel_rfl) (by kernel_rfl) (by kernel_rfl) (by kernel_rfl))
  · intro ds hd
    have hd' : ds.length = 3 := hd
    match ds, hd' with
    | [d0, d1, d2], _ => rfl
  · intro xs hl hx
    have hl' : xs.length = 3 := hl
    match xs, hl' with
    | [x0, x1, x2], _ =>
      obtain ⟨v0, h0⟩ := ro_of (g := 2) (hx 0 33 x0 rfl rfl)
      obtain ⟨v1, h1, b1⟩ := dus_of (g := 3) (hx 1 34 x1 rfl rfl)
      obtain ⟨v2, h2, b2⟩ := cl_of (g := 4) (hx 2 36 x2 rfl rfl)
      exact ⟨⟨v0, v1, v2⟩, trivial, rfl, by subst h0 h1 h2; rfl⟩
theorem CrewAdds_holds : Rows.CrewAddsSaid :=
  OpenClaim.holds_of_wide 6 Try.f6 rfl rfl rfl rfl rfl rfl rfl ⟨rfl, rfl, rfl, rfl, rfl⟩ rfl rfl rfl rfl rfl (by kernel_rfl) (by kernel_rfl) (by kernel_rfl)
    (of_decide_eq_true (by kernel_rfl)) (by unfold Func.isWrapper; first | (rw [if_pos (by decide +kernel)]; kernel_rfl) | (rw [if_neg (by decide +kernel)]; exact ⟨rfl, rfl⟩))
    (fun os started H enc _ => CrewAdds_lifted os started H enc)
#print axioms CrewAdds_holds
end Go.Proofs.Ytnpdjaikmdagmaa
