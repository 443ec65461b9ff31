/- What a seat's arguments read as (seat h2). No conditions. -/
import Derived.Test.YtbdphjgpjhlpmaaSxOG
import Derived.Test.YtbdphjgpjhlpmaaSyHa
import Derived.Test.YtbdphjgpjhlpmaaSyTy
set_option linter.unusedSimpArgs false
set_option linter.unusedVariables false
set_option maxRecDepth 100000
namespace Go.Sx
open Go.Proofs Go.RowKit

theorem int_cell {g : Nat} {vs : List V} (h : tyV Try.prog (g + 1) 3 vs) : ∃ n, vs = [.int .i64 n] := by
  obtain ⟨n, h1, _⟩ := tyV_int h Ty.ik3
  exact ⟨n, h1⟩
theorem ints_cell {g : Nat} {vs : List V} (h : tyV Try.prog (g + 2) 22 vs) : ∃ l : List Int, vs = [ints l] ∧ l.length ≤ 9223372036854775807 := by
  obtain ⟨els, h1, h2, h3⟩ := tyV_sl h Ty.se22
  obtain ⟨l, hl⟩ := rows_map (R := ri) (els := els) (fun row hr => int_cell (h3 row hr))
  subst hl
  rw [Ty.cz3] at h1
  exact ⟨l, h1, by simpa using h2⟩
theorem int_of {g : Nat} {x : V} (h : argTy Try.prog (g + 1) 3 x) : ∃ n, x = .int .i64 n := by
  obtain ⟨n, h1⟩ := int_cell (argTy_one h Ty.ag3)
  exact ⟨n, by simpa using h1⟩
theorem ints_of {g : Nat} {x : V} (h : argTy Try.prog (g + 2) 22 x) : ∃ l : List Int, x = ints l ∧ l.length ≤ 9223372036854775807 := by
  obtain ⟨l, h1, h2⟩ := ints_cell (argTy_one h Ty.ag22)
  exact ⟨l, by simpa using h1, h2⟩
end Go.Sx
