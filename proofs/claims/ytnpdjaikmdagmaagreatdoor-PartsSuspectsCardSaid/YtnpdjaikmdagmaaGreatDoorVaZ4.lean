/- PartsSuspects: for every input the law returns true, and its input reads as it did; its package variables hold what the program's text lays. No conditions. -/
import Derived.Test.YtnpdjaikmdagmaaGreatDoorRows
import Derived.Test.YtnpdjaikmdagmaaGreatDoorTie
import Derived.Test.YtnpdjaikmdagmaaGreatDoorCards
import Derived.Test.YtnpdjaikmdagmaaGreatDoorP25
import Derived.Test.YtnpdjaikmdagmaaGreatDoorP26
import Derived.Lay
import Derived.SevenTiedAt
set_option linter.unusedSimpArgs false
set_option linter.unusedVariables false
set_option linter.unusedSectionVars false
set_option maxRecDepth 100000
namespace Go.Proofs.YtnpdjaikmdagmaaGreatDoor
open Go.Sx Go.ChangeShapes Go.WideShapes Go.ChangeAt Go.RowKit

theorem PartsSuspects_lifted (os : Os) (started : os.Started) (H : Type) (enc : TypeId × Value → H) :
    ReturnsInHanded {} Tryz.checked os 4 .any (fun w args => (Rows.partsSuspectsSpec.pre enc Tryz.prog Tryz.f4 Rows.partsSuspectsRow.domain false w args ∧ laidMetH Tryz.prog Rows.partsSuspectsRow.laid w) ∧ sizedMet enc Tryz.prog Tryz.f4 (OpenSpec.ofChange Rows.partsSuspectsSpec) false w args)
      (Rows.partsSuspectsSpec.post enc Tryz.prog Tryz.f4 false true false false) := by
  refine law_laid (C := Tryz.checked) (fn := Tryz.f4) (S := lawPsS) (X := fun w _ => laidMetH Tryz.prog Rows.partsSuspectsRow.laid w) started 6 4 (fun _ _ _ hh h => h.of_heap hh) (fun w _ h => laid_gok h) (by kernel_rfl) (by kernel_rfl) (by kernel_rfl) (by kernel_rfl) ok4 rfl ?_ rfl (by kernel_rfl) (by kernel_rfl) ?_
    (ChangeSpec.witness_shaped (enc := enc) (C := Tryz.checked) (os := os) (X := fun w _ => laidMetH Tryz.prog Rows.partsSuspectsRow.laid w) false (World.laidAll Tryz.prog os Rows.partsSuspectsRow.laid) #[.agg #[.slice none 0 0, .slice none 0 0, .int .i64 0, .slice none 0 0], .slice none 0 0, .agg #[.int .i64 0, .slice none 0 0, .slice none 0 0]] 8 (World.laidAll_os _ _ _)
      (World.shaped_of_ZipB (by kernel_rfl) (by kernel_rfl)) (by kernel_rfl) (by kernel_rfl) (by kernel_rfl)
      (by rw [MakeChecks.laidMetH_plain _ _ _ (by kernel_rfl)]; exact laidMet_laidAll _ (by kernel_rfl) (by kernel_rfl)))
  · intro ds hd
    have hd' : ds.length = 3 := hd
    match ds, hd' with
    | [d0, d1, d2], _ => rfl
  · intro xs hl hx
    have hl' : xs.length = 3 := hl
    match xs, hl' with
    | [x0, x1, x2], _ =>
      obtain ⟨v0, h0, q0, q1, q2⟩ := reg_of (g := 2) (hx 0 26 x0 rfl rfl)
      obtain ⟨v1, h1, b1⟩ := wks_of (g := 3) (hx 1 27 x1 rfl rfl)
      obtain ⟨v2, h2, c1, c2⟩ := told_of (g := 2) (hx 2 54 x2 rfl rfl)
      exact ⟨⟨v0, v1, v2.m, v2.pl, v2.ch⟩, ⟨rl_fine q0 q1 q2 b1, by show v2.pl.length ≤ _; omega, by show v2.ch.length ≤ _; omega⟩, rfl, by subst h0 h1 h2; rfl⟩
theorem PartsSuspects_said : Rows.PartsSuspectsSaid :=
  OpenClaim.holds_of_wide 4 Tryz.f4 rfl rfl rfl rfl rfl rfl rfl ⟨rfl, rfl, rfl, rfl, rfl⟩ rfl rfl rfl rfl rfl (by kernel_rfl) (by kernel_rfl) (by kernel_rfl)
    (of_decide_eq_true (by kernel_rfl)) (by unfold Func.isWrapper; first | (rw [if_pos (by decide +kernel)]; kernel_rfl) | (rw [if_neg (by decide +kernel)]; exact ⟨rfl, rfl⟩))
    (fun os started H enc _ => PartsSuspects_lifted os started H enc)
theorem PartsSuspects_holds : Rows.PartsSuspectsCardSaid :=
  Claim7.holds_tied_plain_at .later [] [.data, .data] true Rows.partsSuspectsCard.stood.harness false
    PartsSuspects_said (fun _ h => by cases h) (by kernel_rfl) (fun _ h => by cases h) partsSuspects_row_tie rfl ⟨rfl, rfl⟩ (by kernel_rfl) rfl
    (fun f fn hf hfn => by
      obtain rfl : f = 4 := Option.some.inj ((show Tryz.prog.funcNamed Rows.partsSuspectsRow.func = some 4 by kernel_rfl).symm.trans hf) |>.symm
      obtain rfl : fn = Tryz.f4 := (Option.some.inj ((show Tryz.prog.funcs[4]? = some Tryz.f4 by kernel_rfl).symm.trans hfn)).symm
      exact ⟨by kernel_rfl, fun j t ht => by
        have hall : (Tryz.f4.params.toList.all fun t => !Tryz.prog.wantsStandIn t) = true := by kernel_rfl
        have hm : t ∈ Tryz.f4.params.toList := by
          obtain ⟨h, e⟩ := Array.getElem?_eq_some_iff.1 ht
          rw [← e]; exact Array.mem_toList_iff.2 (Array.getElem_mem h)
        have := List.all_eq_true.1 hall t hm
        exact (show Tryz.prog.wantsStandIn t = false by simpa using this)⟩)
    (by kernel_rfl)
#print axioms PartsSuspects_holds
end Go.Proofs.YtnpdjaikmdagmaaGreatDoor
