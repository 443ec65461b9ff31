/- HealthTrends: for every input the law returns true, and its input reads as it did. No conditions. -/
import Derived.Test.YtjnfgejicdnjnaaRows
import Derived.Test.YtjnfgejicdnjnaaSxHk
import Derived.Test.YtjnfgejicdnjnaaSxO
set_option maxRecDepth 100000
namespace Go.Proofs.Ytjnfgejicdnjnaa
open Go.Sx Go.ChangeShapes Go.WideShapes Go.ChangeAt Go.RowKit

theorem und22 : Try.prog.underlying 22 = some (.slice 3) := by kernel_rfl
theorem und3 : Try.prog.underlying 3 = some (.int .i64) := by kernel_rfl
theorem ag22 : isAg Try.prog 22 = false := by kernel_rfl
theorem co3 : Try.prog.cellsOf 3 = 1 := by kernel_rfl
theorem ints_of {g : Nat} {x : V} (h : argTy Try.prog (g + 2) 22 x) : ∃ l : List Int, x = ints l ∧ l.length ≤ 9223372036854775807 := by
  unfold argTy at h
  rw [if_neg (by rw [ag22]; decide)] at h
  simp only [tyV, und22, co3, und3, List.cons.injEq, and_true] at h
  obtain ⟨els, h1, h2, h3⟩ := h
  obtain ⟨l, hl⟩ := rows_map (R := ri) (els := els) (fun row hr => by obtain ⟨n, hn, _⟩ := h3 row hr; exact ⟨n, hn⟩)
  subst hl
  exact ⟨l, h1, by simpa [maxLen] using h2⟩
theorem HealthTrends_lifted (os : Os) (started : os.Started) (H : Type) (enc : TypeId × Value → H) :
    ReturnsInHanded {} Try.checked os 3 .any (Rows.healthTrendsSpec.pre6 enc Try.prog Try.f3 Rows.healthTrendsRow.domain false) (Rows.healthTrendsSpec.post enc Try.prog Try.f3 false true false false) := by
  refine law_lifted (C := Try.checked) (fn := Try.f3) (S := trueIntsS) started 6 4 (by kernel_rfl) (by kernel_rfl) (by kernel_rfl) (by kernel_rfl) ok3 rfl ?_ rfl (by kernel_rfl) (by kernel_rfl) ?_
    (ChangeSpec.witness6 (enc := enc) (C := Try.checked) false ⟨#[], #[.slice none 0 0], []⟩ 8 (by kernel_rfl) (by kernel_rfl) (by kernel_rfl) (by kernel_rfl))
  · intro ds hd
    have hd' : ds.length = 1 := hd
    match ds, hd' with
    | [d], _ => rfl
  · intro xs hl hx
    have hl' : xs.length = 1 := hl
    match xs, hl' with
    | [x], _ =>
      obtain ⟨l, h1, h2⟩ := ints_of (g := 4) (hx 0 22 x rfl rfl)
      exact ⟨l, h2, rfl, by rw [h1]⟩
theorem HealthTrends_holds : Rows.HealthTrendsSaid :=
  OpenClaim.holds_of_wide 3 Try.f3 rfl rfl rfl rfl rfl rfl rfl ⟨rfl, rfl, rfl, rfl, rfl⟩ rfl rfl rfl rfl rfl (by kernel_rfl) (by kernel_rfl) (by kernel_rfl)
    (of_decide_eq_true (by kernel_rfl)) (by unfold Func.isWrapper; first | (rw [if_pos (by decide +kernel)]; kernel_rfl) | (rw [if_neg (by decide +kernel)]; exact ⟨rfl, rfl⟩))
    (fun os started H enc _ => HealthTrends_lifted os started H enc)
#print axioms HealthTrends_holds
end Go.Proofs.Ytjnfgejicdnjnaa
