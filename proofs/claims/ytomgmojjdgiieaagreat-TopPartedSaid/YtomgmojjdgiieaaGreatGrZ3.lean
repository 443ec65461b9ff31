/- TopParted: for every input the law returns true, and its input reads as it did. No conditions. -/
import Derived.Test.YtomgmojjdgiieaaGreatRows
import Derived.Test.YtomgmojjdgiieaaGreatP51
import Derived.Test.YtomgmojjdgiieaaGreatP53
set_option linter.unusedSimpArgs false
set_option linter.unusedVariables false
set_option linter.unusedSectionVars false
set_option maxRecDepth 100000
namespace Go.Proofs.YtomgmojjdgiieaaGreat
open Go.Sx Go.Sx.Rot Go.ChangeShapes Go.WideShapes Go.ChangeAt Go.RowKit
theorem TopParted_lifted (os : Os) (started : os.Started) (H : Type) (enc : TypeId × Value → H) :
    ReturnsInHanded {} Tryz.checked os 3 .any (Rows.topPartedSpec.pre6 enc Tryz.prog Tryz.f3 Rows.topPartedRow.domain false) (Rows.topPartedSpec.post enc Tryz.prog Tryz.f3 false true false false) := by
  refine law_lifted (C := Tryz.checked) (fn := Tryz.f3) (S := lwS) started 6 4 (fun _ => rfl) (by kernel_rfl) (by kernel_rfl) (by kernel_rfl) (by kernel_rfl) ok3 rfl ?_ rfl (by kernel_rfl) (by kernel_rfl) ?_
    (ChangeSpec.witness6 (enc := enc) (C := Tryz.checked) false ⟨#[], #[.agg #[.slice none 0 0, .slice none 0 0, .slice none 0 0, .slice none 0 0, .slice none 0 0, .slice none 0 0, .slice none 0 0, .slice none 0 0, .slice none 0 0, .slice none 0 0, .slice none 0 0, .slice none 0 0, .slice none 0 0, .slice none 0 0, .slice none 0 0, .slice none 0 0, .slice none 0 0, .slice none 0 0, .slice none 0 0, .slice none 0 0, .slice none 0 0, .slice none 0 0, .slice none 0 0, .slice none 0 0, .int .i64 0, .int .i64 0, .int .i64 0, .int .i64 0, .int .i64 0, .int .i64 0, .int .i64 0, .int .i64 0, .int .i64 0], .agg #[.int .i64 0, .int .i64 0, .int .i64 0, .int .i64 0, .int .i64 0, .int .i64 0, .int .i64 0, .int .i64 0], .agg #[.int .i64 0, .int .i64 0, .int .i64 0, .slice none 0 0, .slice none 0 0, .int .i64 0, .int .i64 0, .int .i64 0]], []⟩ 8 (by kernel_rfl) (by kernel_rfl) (by kernel_rfl) (by kernel_rfl))
  · intro ds hd
    have hd' : ds.length = 3 := hd
    match ds, hd' with
    | [d0, d1, d2], _ => rfl
  · intro xs hl hx
    have hl' : xs.length = 3 := hl
    match xs, hl' with
    | [x0, x1, x2], _ =>
      obtain ⟨v0, h0⟩ := craft_of (g := 0) (hx 0 29 x0 rfl rfl)
      obtain ⟨v1, h1⟩ := airt_of (g := 3) (hx 1 33 x1 rfl rfl)
      obtain ⟨v2, h2⟩ := leav_of (g := 1) (hx 2 40 x2 rfl rfl)
      exact ⟨⟨v0, v1, v2⟩, trivial, rfl, by subst h0 h1 h2; rfl⟩
theorem TopParted_holds : Rows.TopPartedSaid :=
  OpenClaim.holds_of_wide 3 Tryz.f3 rfl rfl rfl rfl rfl rfl rfl ⟨rfl, rfl, rfl, rfl, rfl⟩ rfl rfl rfl rfl rfl (by kernel_rfl) (by kernel_rfl) (by kernel_rfl)
    (of_decide_eq_true (by kernel_rfl)) (by unfold Func.isWrapper; first | (rw [if_pos (by decide +kernel)]; kernel_rfl) | (rw [if_neg (by decide +kernel)]; exact ⟨rfl, rfl⟩))
    (fun os started H enc _ => TopParted_lifted os started H enc)
#print axioms TopParted_holds
end Go.Proofs.YtomgmojjdgiieaaGreat
