/- PartsWorn: for every input the law returns true, and its input reads as it did; its package variables hold what the program's text lays. No conditions. -/
import Derived.Test.YtnpdjaikmdagmaaDoorRows
import Derived.Test.YtnpdjaikmdagmaaDoorTie
import Derived.Test.YtnpdjaikmdagmaaDoorCards
import Derived.Test.YtnpdjaikmdagmaaDoorP24
import Derived.Test.YtnpdjaikmdagmaaDoorP25
import Derived.Lay
import Derived.SevenTiedAt
set_option linter.unusedSimpArgs false
set_option linter.unusedVariables false
set_option linter.unusedSectionVars false
set_option maxRecDepth 100000
namespace Go.Proofs.YtnpdjaikmdagmaaDoor
open Go.Sx Go.ChangeShapes Go.WideShapes Go.ChangeAt Go.RowKit

theorem PartsWorn_lifted (os : Os) (started : os.Started) (H : Type) (enc : TypeId × Value → H) :
    ReturnsInHanded {} Tryd.checked os 5 .any (fun w args => (Rows.partsWornSpec.pre enc Tryd.prog Tryd.f5 Rows.partsWornRow.domain false w args ∧ laidMetH Tryd.prog Rows.partsWornRow.laid w) ∧ sizedMet enc Tryd.prog Tryd.f5 (OpenSpec.ofChange Rows.partsWornSpec) false w args)
      (Rows.partsWornSpec.post enc Tryd.prog Tryd.f5 false true false false) := by
  refine law_laid (C := Tryd.checked) (fn := Tryd.f5) (S := lawPwS) (X := fun w _ => laidMetH Tryd.prog Rows.partsWornRow.laid w) started 6 4 (fun _ _ _ hh h => h.of_heap hh) (fun w _ h => laid_gok h) (by kernel_rfl) (by kernel_rfl) (by kernel_rfl) (by kernel_rfl) ok5 rfl ?_ rfl (by kernel_rfl) (by kernel_rfl) ?_
    (ChangeSpec.witness_shaped (enc := enc) (C := Tryd.checked) (os := os) (X := fun w _ => laidMetH Tryd.prog Rows.partsWornRow.laid w) false (World.laidAll Tryd.prog os Rows.partsWornRow.laid) #[.agg #[.slice none 0 0, .slice none 0 0, .int .i64 0, .slice none 0 0], .slice none 0 0, .agg #[.int .i64 0, .slice none 0 0, .slice none 0 0]] 8 (World.laidAll_os _ _ _)
      (World.shaped_of_ZipB (by kernel_rfl) (by kernel_rfl)) (by kernel_rfl) (by kernel_rfl) (by kernel_rfl)
      (by rw [MakeChecks.laidMetH_plain _ _ _ (by kernel_rfl)]; exact laidMet_laidAll _ (by kernel_rfl) (by kernel_rfl)))
  · intro ds hd
    have hd' : ds.length = 3 := hd
    match ds, hd' with
    | [d0, d1, d2], _ => rfl
  · intro xs hl hx
    have hl' : xs.length = 3 := hl
    match xs, hl' with
    | [x0, x1, x2], _ =>
      obtain ⟨v0, h0, q0, q1, q2⟩ := reg_of (g := 2) (hx 0 43 x0 rfl rfl)
      obtain ⟨v1, h1, b1⟩ := wks_of (g := 3) (hx 1 44 x1 rfl rfl)
      obtain ⟨v2, h2, c1, c2⟩ := told_of (g := 2) (hx 2 47 x2 rfl rfl)
      exact ⟨⟨v0, v1, v2.m, v2.pl, v2.ch⟩, ⟨rl_fine q0 q1 q2 b1, by show v2.pl.length ≤ _; omega, by show v2.ch.length ≤ _; omega⟩, rfl, by subst h0 h1 h2; rfl⟩
theorem PartsWorn_said : Rows.PartsWornSaid :=
  OpenClaim.holds_of_wide 5 Tryd.f5 rfl rfl rfl rfl rfl rfl rfl ⟨rfl, rfl, rfl, rfl, rfl⟩ rfl rfl rfl rfl rfl (by kernel_rfl) (by kernel_rfl) (by kernel_rfl)
    (of_decide_eq_true (by kernel_rfl)) (by unfold Func.isWrapper; first | (rw [if_pos (by decide +kernel)]; kernel_rfl) | (rw [if_neg (by decide +kernel)]; exact ⟨rfl, rfl⟩))
    (fun os started H enc _ => PartsWorn_lifted os started H enc)
theorem PartsWorn_holds : Rows.PartsWornCardSaid :=
  Claim7.holds_tied_plain_at .later [] [.data, .data] true Rows.partsWornCard.stood.harness false
    PartsWorn_said (fun _ h => by cases h) (by kernel_rfl) (fun _ h => by cases h) partsWorn_row_tie rfl ⟨rfl, rfl⟩ (by kernel_rfl) rfl
    (fun f fn hf hfn => by
      obtain rfl : f = 5 := Option.some.inj ((show Tryd.prog.funcNamed Rows.partsWornRow.func = some 5 by kernel_rfl).symm.trans hf) |>.symm
      obtain rfl : fn = Tryd.f5 := (Option.some.inj ((show Tryd.prog.funcs[5]? = some Tryd.f5 by kernel_rfl).symm.trans hfn)).symm
      exact ⟨by kernel_rfl, fun j t ht => by
        have hall : (Tryd.f5.params.toList.all fun t => !Tryd.prog.wantsStandIn t) = true := by kernel_rfl
        have hm : t ∈ Tryd.f5.params.toList := by
          obtain ⟨h, e⟩ := Array.getElem?_eq_some_iff.1 ht
          rw [← e]; exact Array.mem_toList_iff.2 (Array.getElem_mem h)
        have := List.all_eq_true.1 hall t hm
        exact (show Tryd.prog.wantsStandIn t = false by simpa using this)⟩)
    (by kernel_rfl)
#print axioms PartsWorn_holds
end Go.Proofs.YtnpdjaikmdagmaaDoor
