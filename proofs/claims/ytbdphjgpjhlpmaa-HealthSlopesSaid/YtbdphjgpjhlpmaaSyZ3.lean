/- HealthSlopes: for every input the law returns true, and its input reads as it did. No conditions. -/
import Derived.Test.YtbdphjgpjhlpmaaRows
import Derived.Test.YtbdphjgpjhlpmaaSyAb
import Derived.Test.YtbdphjgpjhlpmaaSyOT
set_option linter.unusedSimpArgs false
set_option linter.unusedVariables false
set_option maxRecDepth 100000
namespace Go.Proofs.Ytbdphjgpjhlpmaa
open Go.Sx Go.ChangeShapes Go.WideShapes Go.ChangeAt Go.RowKit

theorem HealthSlopes_lifted (os : Os) (started : os.Started) (H : Type) (enc : TypeId × Value → H) :
    ReturnsInHanded {} Try.checked os 3 .any (Rows.healthSlopesSpec.pre6 enc Try.prog Try.f3 Rows.healthSlopesRow.domain false) (Rows.healthSlopesSpec.post enc Try.prog Try.f3 false true false false) := by
  refine law_lifted (C := Try.checked) (fn := Try.f3) (S := trueSlS) started 6 4 (by kernel_rfl) (by kernel_rfl) (by kernel_rfl) (by kernel_rfl) ok3 rfl ?_ rfl (by kernel_rfl) (by kernel_rfl) ?_
    (ChangeSpec.witness6 (enc := enc) (C := Try.checked) false ⟨#[], #[.slice none 0 0, .slice none 0 0, .int .i64 0], []⟩ 8 (by kernel_rfl) (by kernel_rfl) (by kernel_rfl) (by kernel_rfl))
  · intro ds hd
    have hd' : ds.length = 3 := hd
    match ds, hd' with
    | [d0, d1, d2], _ => rfl
  · intro xs hl hx
    have hl' : xs.length = 3 := hl
    match xs, hl' with
    | [x0, x1, x2], _ =>
      obtain ⟨v0, h0, b0⟩ := ints_of (g := 4) (hx 0 22 x0 rfl rfl)
      obtain ⟨v1, h1, b1⟩ := ints_of (g := 4) (hx 1 22 x1 rfl rfl)
      obtain ⟨v2, h2⟩ := int_of (g := 5) (hx 2 3 x2 rfl rfl)
      exact ⟨⟨v0, v1, v2⟩, ⟨b0, b1⟩, rfl, by rw [h0, h1, h2]⟩
theorem HealthSlopes_holds : Rows.HealthSlopesSaid :=
  OpenClaim.holds_of_wide 3 Try.f3 rfl rfl rfl rfl rfl rfl rfl ⟨rfl, rfl, rfl, rfl, rfl⟩ rfl rfl rfl rfl rfl (by kernel_rfl) (by kernel_rfl) (by kernel_rfl)
    (of_decide_eq_true (by kernel_rfl)) (by unfold Func.isWrapper; first | (rw [if_pos (by decide +kernel)]; kernel_rfl) | (rw [if_neg (by decide +kernel)]; exact ⟨rfl, rfl⟩))
    (fun os started H enc _ => HealthSlopes_lifted os started H enc)
#print axioms HealthSlopes_holds
end Go.Proofs.Ytbdphjgpjhlpmaa
