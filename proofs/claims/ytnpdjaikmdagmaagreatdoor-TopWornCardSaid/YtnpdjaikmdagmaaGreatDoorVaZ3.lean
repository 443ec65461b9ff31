/- TopWorn: for every input the law returns true, and its input reads as it did; its package variables hold what the program's text lays. No conditions. -/
import Derived.Test.YtnpdjaikmdagmaaGreatDoorRows
import Derived.Test.YtnpdjaikmdagmaaGreatDoorTie
import Derived.Test.YtnpdjaikmdagmaaGreatDoorCards
import Derived.Test.YtnpdjaikmdagmaaGreatDoorP25
import Derived.Test.YtnpdjaikmdagmaaGreatDoorP26
import Derived.Lay
import Derived.SevenTiedAt
set_option linter.unusedSimpArgs false
set_option linter.unusedVariables false
set_option linter.unusedSectionVars false
set_option maxRecDepth 100000
namespace Go.Proofs.YtnpdjaikmdagmaaGreatDoor
open Go.Sx Go.ChangeShapes Go.WideShapes Go.ChangeAt Go.RowKit

theorem TopWorn_lifted (os : Os) (started : os.Started) (H : Type) (enc : TypeId × Value → H) :
    ReturnsInHanded {} Tryz.checked os 3 .any (fun w args => (Rows.topWornSpec.pre enc Tryz.prog Tryz.f3 Rows.topWornRow.domain false w args ∧ laidMetH Tryz.prog Rows.topWornRow.laid w) ∧ sizedMet enc Tryz.prog Tryz.f3 (OpenSpec.ofChange Rows.topWornSpec) false w args)
      (Rows.topWornSpec.post enc Tryz.prog Tryz.f3 false true false false) := by
  refine law_laid (C := Tryz.checked) (fn := Tryz.f3) (S := lawTwS) (X := fun w _ => laidMetH Tryz.prog Rows.topWornRow.laid w) started 6 4 (fun _ _ _ hh h => h.of_heap hh) (fun w _ h => laid_gok h) (by kernel_rfl) (by kernel_rfl) (by kernel_rfl) (by kernel_rfl) ok3 rfl ?_ rfl (by kernel_rfl) (by kernel_rfl) ?_
    (ChangeSpec.witness_shaped (enc := enc) (C := Tryz.checked) (os := os) (X := fun w _ => laidMetH Tryz.prog Rows.topWornRow.laid w) false (World.laidAll Tryz.prog os Rows.topWornRow.laid) #[.agg #[.slice none 0 0, .slice none 0 0, .int .i64 0, .slice none 0 0, .slice none 0 0], .agg #[.slice none 0 0, .slice none 0 0, .int .i64 0], .agg #[.int .i64 0, .slice none 0 0]] 8 (World.laidAll_os _ _ _)
      (World.shaped_of_ZipB (by kernel_rfl) (by kernel_rfl)) (by kernel_rfl) (by kernel_rfl) (by kernel_rfl)
      (by rw [MakeChecks.laidMetH_plain _ _ _ (by kernel_rfl)]; exact laidMet_laidAll _ (by kernel_rfl) (by kernel_rfl)))
  · intro ds hd
    have hd' : ds.length = 3 := hd
    match ds, hd' with
    | [d0, d1, d2], _ => rfl
  · intro xs hl hx
    have hl' : xs.length = 3 := hl
    match xs, hl' with
    | [x0, x1, x2], _ =>
      obtain ⟨v0, h0, f0⟩ := hangar_of (g := 1) (hx 0 29 x0 rfl rfl)
      obtain ⟨v1, h1, t0, t1⟩ := heard_of (g := 2) (hx 1 32 x1 rfl rfl)
      obtain ⟨v2, h2, c0⟩ := held_of (g := 2) (hx 2 35 x2 rfl rfl)
      exact ⟨⟨v0.r, v0.l, v1.b, v1.n, v1.p, v2.1, v2.2⟩, ⟨f0, t0, t1, by show v2.2.length ≤ _; omega⟩, rfl, by subst h0 h1 h2; rfl⟩
theorem TopWorn_said : Rows.TopWornSaid :=
  OpenClaim.holds_of_wide 3 Tryz.f3 rfl rfl rfl rfl rfl rfl rfl ⟨rfl, rfl, rfl, rfl, rfl⟩ rfl rfl rfl rfl rfl (by kernel_rfl) (by kernel_rfl) (by kernel_rfl)
    (of_decide_eq_true (by kernel_rfl)) (by unfold Func.isWrapper; first | (rw [if_pos (by decide +kernel)]; kernel_rfl) | (rw [if_neg (by decide +kernel)]; exact ⟨rfl, rfl⟩))
    (fun os started H enc _ => TopWorn_lifted os started H enc)
theorem TopWorn_holds : Rows.TopWornCardSaid :=
  Claim7.holds_tied_plain_at .later [] [.data, .data] true Rows.topWornCard.stood.harness false
    TopWorn_said (fun _ h => by cases h) (by kernel_rfl) (fun _ h => by cases h) topWorn_row_tie rfl ⟨rfl, rfl⟩ (by kernel_rfl) rfl
    (fun f fn hf hfn => by
      obtain rfl : f = 3 := Option.some.inj ((show Tryz.prog.funcNamed Rows.topWornRow.func = some 3 by kernel_rfl).symm.trans hf) |>.symm
      obtain rfl : fn = Tryz.f3 := (Option.some.inj ((show Tryz.prog.funcs[3]? = some Tryz.f3 by kernel_rfl).symm.trans hfn)).symm
      exact ⟨by kernel_rfl, fun j t ht => by
        have hall : (Tryz.f3.params.toList.all fun t => !Tryz.prog.wantsStandIn t) = true := by kernel_rfl
        have hm : t ∈ Tryz.f3.params.toList := by
          obtain ⟨h, e⟩ := Array.getElem?_eq_some_iff.1 ht
          rw [← e]; exact Array.mem_toList_iff.2 (Array.getElem_mem h)
        have := List.all_eq_true.1 hall t hm
        exact (show Tryz.prog.wantsStandIn t = false by simpa using this)⟩)
    (by kernel_rfl)
#print axioms TopWorn_holds
end Go.Proofs.YtnpdjaikmdagmaaGreatDoor
