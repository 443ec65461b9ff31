/- HealthSlopes: the law. No conditions. -/
import Derived.Test.YtbdphjgpjhlpmaaSyAa
set_option linter.unusedSimpArgs false
set_option linter.unusedVariables false
set_option maxRecDepth 100000
set_option maxHeartbeats 1000000
namespace Go.Sx
open Go.Proofs

noncomputable abbrev trueSlS : PSpec := { chkSlS with res := fun _ => .bool true }
noncomputable abbrev E3 : Env := { P := Try.prog, fn := tbl [(5, .pure SlopeS), (6, .pure SlopeS), (7, .pure ForecastS), (8, .pure ForecastS), (9, .pure worksS)], own := [], key := 300, nt := 72 }
theorem b3 : PureBody E3 [] Try.f3 trueSlS := by
  refine pb ?_
  rintro ⟨h, v, a⟩ ⟨p1, p2⟩
  simp only at p1 p2
  simp -dsimp [Try.f3, E3]
  repeat' (first | omega | (simp -dsimp [E3, ri, cellp, ints, p1, p2]) | (refine Also.intro ?_ fun _ => ?_) | (refine Hold.intro fun _ => ?_) | (refine And.intro ?_ ?_))
theorem ok3 : FnOK Try.prog 3 (.pure trueSlS) := pure_fn (E := E3) rfl (.cons ok5 (.cons ok6 (.cons ok7 (.cons ok8 (.cons ok9 .nil))))) (ok := []) (fn := Try.f3) (by kernel_rfl) (by kernel_rfl) (by kernel_rfl) (by kernel_rfl) rfl (fun _ _ => by simp) b3
end Go.Sx

