/- What a seat's line reads as (seat h2). No conditions. -/
import Derived.Test.YtbdphjgpjhlpmaaSyOT
import Derived.Test.YtbdphjgpjhlpmaaSyAd
set_option linter.unusedSimpArgs false
set_option linter.unusedVariables false
set_option maxRecDepth 100000
namespace Go.Sx
open Go.Proofs Go.RowKit

theorem ln_of {g : Nat} {x : V} (h : argTy Try.prog (g + 2) 30 x) : ∃ d : LnD, x = lnV d := by
  obtain ⟨vs, e, k⟩ := argTy_agg h Ty.ag30
  subst e
  have hl := tyV_len k Ty.ag30
  rw [Ty.cz30] at hl
  obtain ⟨n0, e0⟩ := int_cell (tyV_fld k Ty.fd30_0)
  obtain ⟨n1, e1⟩ := int_cell (tyV_fld k Ty.fd30_1)
  obtain ⟨n2, e2⟩ := int_cell (tyV_fld k Ty.fd30_2)
  obtain ⟨n3, e3⟩ := int_cell (tyV_fld k Ty.fd30_3)
  rw [Ty.cz3] at e0 e1 e2 e3
  match vs, hl with
  | [a, b, c, d], _ =>
    simp at e0 e1 e2 e3
    subst e0 e1 e2 e3
    exact ⟨⟨n0, n1, n2, n3⟩, rfl⟩
end Go.Sx
