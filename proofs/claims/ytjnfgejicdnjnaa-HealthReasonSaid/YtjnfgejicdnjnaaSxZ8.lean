/- HealthReason: for every input the law returns true, and its input reads as it did. No conditions. -/
import Derived.Test.YtjnfgejicdnjnaaRows
import Derived.Test.YtjnfgejicdnjnaaSxHu
import Derived.Test.YtjnfgejicdnjnaaSxOT
set_option linter.unusedSimpArgs false
set_option linter.unusedVariables false
set_option maxRecDepth 100000
namespace Go.Proofs.Ytjnfgejicdnjnaa
open Go.Sx Go.ChangeShapes Go.WideShapes Go.ChangeAt Go.RowKit

theorem HealthReason_lifted (os : Os) (started : os.Started) (H : Type) (enc : TypeId × Value → H) :
    ReturnsInHanded {} Try.checked os 8 .any (Rows.healthReasonSpec.pre6 enc Try.prog Try.f8 Rows.healthReasonRow.domain false) (Rows.healthReasonSpec.post enc Try.prog Try.f8 false true false false) := by
  refine law_lifted (C := Try.checked) (fn := Try.f8) (S := trueReasonS) started 6 4 (by kernel_rfl) (by kernel_rfl) (by kernel_rfl) (by kernel_rfl) ok8 rfl ?_ rfl (by kernel_rfl) (by kernel_rfl) ?_
    (ChangeSpec.witness6 (enc := enc) (C := Try.checked) false ⟨#[], #[.slice none 0 0, .agg #[.int .i64 0, .int .i64 0, .int .i64 0]], []⟩ 8 (by kernel_rfl) (by kernel_rfl) (by kernel_rfl) (by kernel_rfl))
  · intro ds hd
    have hd' : ds.length = 2 := hd
    match ds, hd' with
    | [d0, d1], _ => rfl
  · intro xs hl hx
    have hl' : xs.length = 2 := hl
    match xs, hl' with
    | [x0, x1], _ =>
      obtain ⟨v0, h0, b0⟩ := ints_of (g := 4) (hx 0 22 x0 rfl rfl)
      obtain ⟨v1, h1⟩ := lim_of (g := 4) (hx 1 35 x1 rfl rfl)
      exact ⟨⟨v0, v1⟩, b0, rfl, by rw [h0, h1]⟩
theorem HealthReason_holds : Rows.HealthReasonSaid :=
  OpenClaim.holds_of_wide 8 Try.f8 rfl rfl rfl rfl rfl rfl rfl ⟨rfl, rfl, rfl, rfl, rfl⟩ rfl rfl rfl rfl rfl (by kernel_rfl) (by kernel_rfl) (by kernel_rfl)
    (of_decide_eq_true (by kernel_rfl)) (by unfold Func.isWrapper; first | (rw [if_pos (by decide +kernel)]; kernel_rfl) | (rw [if_neg (by decide +kernel)]; exact ⟨rfl, rfl⟩))
    (fun os started H enc _ => HealthReason_lifted os started H enc)
#print axioms HealthReason_holds
end Go.Proofs.Ytjnfgejicdnjnaa
