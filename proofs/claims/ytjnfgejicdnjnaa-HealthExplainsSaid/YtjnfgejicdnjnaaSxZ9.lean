/- HealthExplains: for every input the law returns true, and its input reads as it did. No conditions. -/
import Derived.Test.YtjnfgejicdnjnaaRows
import Derived.Test.YtjnfgejicdnjnaaSxIe
import Derived.Test.YtjnfgejicdnjnaaSxOT
set_option linter.unusedSimpArgs false
set_option linter.unusedVariables false
set_option maxRecDepth 100000
namespace Go.Proofs.Ytjnfgejicdnjnaa
open Go.Sx Go.ChangeShapes Go.WideShapes Go.ChangeAt Go.RowKit

theorem HealthExplains_lifted (os : Os) (started : os.Started) (H : Type) (enc : TypeId × Value → H) :
    ReturnsInHanded {} Try.checked os 9 .any (Rows.healthExplainsSpec.pre6 enc Try.prog Try.f9 Rows.healthExplainsRow.domain false) (Rows.healthExplainsSpec.post enc Try.prog Try.f9 false true false false) := by
  refine law_lifted (C := Try.checked) (fn := Try.f9) (S := trueExS) started 6 4 (by kernel_rfl) (by kernel_rfl) (by kernel_rfl) (by kernel_rfl) ok9 rfl ?_ rfl (by kernel_rfl) (by kernel_rfl) ?_
    (ChangeSpec.witness6 (enc := enc) (C := Try.checked) false ⟨#[], #[.agg #[.int .i64 0, .int .i64 0], .slice none 0 0], []⟩ 8 (by kernel_rfl) (by kernel_rfl) (by kernel_rfl) (by kernel_rfl))
  · intro ds hd
    have hd' : ds.length = 2 := hd
    match ds, hd' with
    | [d0, d1], _ => rfl
  · intro xs hl hx
    have hl' : xs.length = 2 := hl
    match xs, hl' with
    | [x0, x1], _ =>
      obtain ⟨v0, h0⟩ := sz_of (g := 4) (hx 0 45 x0 rfl rfl)
      obtain ⟨v1, h1, b1⟩ := cells_of (g := 3) (hx 1 39 x1 rfl rfl)
      exact ⟨⟨v0, v1⟩, b1, rfl, by rw [h0, h1]; rfl⟩
theorem HealthExplains_holds : Rows.HealthExplainsSaid :=
  OpenClaim.holds_of_wide 9 Try.f9 rfl rfl rfl rfl rfl rfl rfl ⟨rfl, rfl, rfl, rfl, rfl⟩ rfl rfl rfl rfl rfl (by kernel_rfl) (by kernel_rfl) (by kernel_rfl)
    (of_decide_eq_true (by kernel_rfl)) (by unfold Func.isWrapper; first | (rw [if_pos (by decide +kernel)]; kernel_rfl) | (rw [if_neg (by decide +kernel)]; exact ⟨rfl, rfl⟩))
    (fun os started H enc _ => HealthExplains_lifted os started H enc)
#print axioms HealthExplains_holds
end Go.Proofs.Ytjnfgejicdnjnaa
