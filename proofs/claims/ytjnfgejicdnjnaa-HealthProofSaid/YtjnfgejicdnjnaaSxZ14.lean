/- HealthProof: for every input the law returns true, and its input reads as it did. No conditions. -/
import Derived.Test.YtjnfgejicdnjnaaRows
import Derived.Test.YtjnfgejicdnjnaaSxIo
import Derived.Test.YtjnfgejicdnjnaaSxOT
set_option linter.unusedSimpArgs false
set_option linter.unusedVariables false
set_option maxRecDepth 100000
namespace Go.Proofs.Ytjnfgejicdnjnaa
open Go.Sx Go.ChangeShapes Go.WideShapes Go.ChangeAt Go.RowKit

theorem HealthProof_lifted (os : Os) (started : os.Started) (H : Type) (enc : TypeId × Value → H) :
    ReturnsInHanded {} Try.checked os 14 .any (Rows.healthProofSpec.pre6 enc Try.prog Try.f14 Rows.healthProofRow.domain false) (Rows.healthProofSpec.post enc Try.prog Try.f14 false true false false) := by
  refine law_lifted (C := Try.checked) (fn := Try.f14) (S := trueProofS) started 6 4 (by kernel_rfl) (by kernel_rfl) (by kernel_rfl) (by kernel_rfl) ok14 rfl ?_ rfl (by kernel_rfl) (by kernel_rfl) ?_
    (ChangeSpec.witness6 (enc := enc) (C := Try.checked) false ⟨#[], #[.agg #[.int .i64 0, .int .i64 0], .slice none 0 0, .agg #[.slice none 0 0, .slice none 0 0]], []⟩ 8 (by kernel_rfl) (by kernel_rfl) (by kernel_rfl) (by kernel_rfl))
  · intro ds hd
    have hd' : ds.length = 3 := hd
    match ds, hd' with
    | [d0, d1, d2], _ => rfl
  · intro xs hl hx
    have hl' : xs.length = 3 := hl
    match xs, hl' with
    | [x0, x1, x2], _ =>
      obtain ⟨v0, h0⟩ := sz_of (g := 4) (hx 0 45 x0 rfl rfl)
      obtain ⟨v1, h1, b1⟩ := cells_of (g := 3) (hx 1 39 x1 rfl rfl)
      obtain ⟨v2, h2, b2⟩ := cause_of (g := 3) (hx 2 65 x2 rfl rfl)
      exact ⟨⟨v0, v1, v2⟩, ⟨b1, b2⟩, rfl, by rw [h0, h1, h2]; rfl⟩
theorem HealthProof_holds : Rows.HealthProofSaid :=
  OpenClaim.holds_of_wide 14 Try.f14 rfl rfl rfl rfl rfl rfl rfl ⟨rfl, rfl, rfl, rfl, rfl⟩ rfl rfl rfl rfl rfl (by kernel_rfl) (by kernel_rfl) (by kernel_rfl)
    (of_decide_eq_true (by kernel_rfl)) (by unfold Func.isWrapper; first | (rw [if_pos (by decide +kernel)]; kernel_rfl) | (rw [if_neg (by decide +kernel)]; exact ⟨rfl, rfl⟩))
    (fun os started H enc _ => HealthProof_lifted os started H enc)
#print axioms HealthProof_holds
end Go.Proofs.Ytjnfgejicdnjnaa
