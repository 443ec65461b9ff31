/- HealthCrests: for every input the law returns true, and its input reads as it did. No conditions. -/
import Derived.Test.YtjnfgejicdnjnaaRows
import Derived.Test.YtjnfgejicdnjnaaSxHl
import Derived.Test.YtjnfgejicdnjnaaSxOT
set_option maxRecDepth 100000
namespace Go.Proofs.Ytjnfgejicdnjnaa
open Go.Sx Go.ChangeShapes Go.WideShapes Go.ChangeAt Go.RowKit

theorem HealthCrests_lifted (os : Os) (started : os.Started) (H : Type) (enc : TypeId × Value → H) :
    ReturnsInHanded {} Try.checked os 4 .any (Rows.healthCrestsSpec.pre6 enc Try.prog Try.f4 Rows.healthCrestsRow.domain false) (Rows.healthCrestsSpec.post enc Try.prog Try.f4 false true false false) := by
  refine law_lifted (C := Try.checked) (fn := Try.f4) (S := trueCrestS) started 6 4 (by kernel_rfl) (by kernel_rfl) (by kernel_rfl) (by kernel_rfl) ok4 rfl ?_ rfl (by kernel_rfl) (by kernel_rfl) ?_
    (ChangeSpec.witness6 (enc := enc) (C := Try.checked) false ⟨#[], #[.agg #[.int .i64 0, .int .i64 0, .int .i64 0, .int .i64 0], .int .i64 0], []⟩ 8 (by kernel_rfl) (by kernel_rfl) (by kernel_rfl) (by kernel_rfl))
  · intro ds hd
    have hd' : ds.length = 2 := hd
    match ds, hd' with
    | [d0, d1], _ => rfl
  · intro xs hl hx
    have hl' : xs.length = 2 := hl
    match xs, hl' with
    | [x0, x1], _ =>
      obtain ⟨v0, h0⟩ := lv_of (g := 4) (hx 0 31 x0 rfl rfl)
      obtain ⟨v1, h1⟩ := int_of (g := 4) (hx 1 3 x1 rfl rfl)
      exact ⟨⟨v0, v1⟩, trivial, rfl, by rw [h0, h1]⟩
theorem HealthCrests_holds : Rows.HealthCrestsSaid :=
  OpenClaim.holds_of_wide 4 Try.f4 rfl rfl rfl rfl rfl rfl rfl ⟨rfl, rfl, rfl, rfl, rfl⟩ rfl rfl rfl rfl rfl (by kernel_rfl) (by kernel_rfl) (by kernel_rfl)
    (of_decide_eq_true (by kernel_rfl)) (by unfold Func.isWrapper; first | (rw [if_pos (by decide +kernel)]; kernel_rfl) | (rw [if_neg (by decide +kernel)]; exact ⟨rfl, rfl⟩))
    (fun os started H enc _ => HealthCrests_lifted os started H enc)
#print axioms HealthCrests_holds
end Go.Proofs.Ytjnfgejicdnjnaa
