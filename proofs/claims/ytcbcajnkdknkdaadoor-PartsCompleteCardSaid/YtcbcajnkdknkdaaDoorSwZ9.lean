/- PartsComplete: for every input the law returns true, and its input reads as it did; its package variables hold what the program's text lays. No conditions. -/
import Derived.Test.YtcbcajnkdknkdaaDoorRows
import Derived.Test.YtcbcajnkdknkdaaDoorTie
import Derived.Test.YtcbcajnkdknkdaaDoorCards
import Derived.Test.YtcbcajnkdknkdaaDoorP24
import Derived.Test.YtcbcajnkdknkdaaDoorP25
import Derived.Lay
import Derived.SevenTiedAt
set_option linter.unusedSimpArgs false
set_option linter.unusedVariables false
set_option linter.unusedSectionVars false
set_option maxRecDepth 100000
namespace Go.Proofs.YtcbcajnkdknkdaaDoor
open Go.Sx Go.ChangeShapes Go.WideShapes Go.ChangeAt Go.RowKit

theorem PartsComplete_lifted (os : Os) (started : os.Started) (H : Type) (enc : TypeId × Value → H) :
    ReturnsInHanded {} Tryd.checked os 9 .any (fun w args => (Rows.partsCompleteSpec.pre enc Tryd.prog Tryd.f9 Rows.partsCompleteRow.domain false w args ∧ laidMetH Tryd.prog Rows.partsCompleteRow.laid w) ∧ sizedMet enc Tryd.prog Tryd.f9 (OpenSpec.ofChange Rows.partsCompleteSpec) false w args)
      (Rows.partsCompleteSpec.post enc Tryd.prog Tryd.f9 false true false false) := by
  refine law_laid (C := Tryd.checked) (fn := Tryd.f9) (S := lawCpS) (X := fun w _ => laidMetH Tryd.prog Rows.partsCompleteRow.laid w) started 6 4 (fun _ _ _ hh h => h.of_heap hh) (fun w _ h => laid_gok h) (by kernel_rfl) (by kernel_rfl) (by kernel_rfl) (by kernel_rfl) ok9 rfl ?_ rfl (by kernel_rfl) (by kernel_rfl) ?_
    (ChangeSpec.witness_shaped (enc := enc) (C := Tryd.checked) (os := os) (X := fun w _ => laidMetH Tryd.prog Rows.partsCompleteRow.laid w) false (World.laidAll Tryd.prog os Rows.partsCompleteRow.laid) #[.agg #[.slice none 0 0, .slice none 0 0, .int .i64 0, .slice none 0 0], .slice none 0 0] 8 (World.laidAll_os _ _ _)
      (World.shaped_of_ZipB (by kernel_rfl) (by kernel_rfl)) (by kernel_rfl) (by kernel_rfl) (by kernel_rfl)
      (by rw [MakeChecks.laidMetH_plain _ _ _ (by kernel_rfl)]; exact laidMet_laidAll _ (by kernel_rfl) (by kernel_rfl)))
  · intro ds hd
    have hd' : ds.length = 2 := hd
    match ds, hd' with
    | [d0, d1], _ => rfl
  · intro xs hl hx
    have hl' : xs.length = 2 := hl
    match xs, hl' with
    | [x0, x1], _ =>
      obtain ⟨v0, h0, a0, a1, a2⟩ := reg_of (g := 2) (hx 0 38 x0 rfl rfl)
      obtain ⟨v1, h1, a3⟩ := wks_of (g := 3) (hx 1 39 x1 rfl rfl)
      exact ⟨⟨v0, v1⟩, rl_fine a0 a1 a2 a3, rfl, by subst h0 h1; rfl⟩
theorem PartsComplete_said : Rows.PartsCompleteSaid :=
  OpenClaim.holds_of_wide 9 Tryd.f9 rfl rfl rfl rfl rfl rfl rfl ⟨rfl, rfl, rfl, rfl, rfl⟩ rfl rfl rfl rfl rfl (by kernel_rfl) (by kernel_rfl) (by kernel_rfl)
    (of_decide_eq_true (by kernel_rfl)) (by unfold Func.isWrapper; first | (rw [if_pos (by decide +kernel)]; kernel_rfl) | (rw [if_neg (by decide +kernel)]; exact ⟨rfl, rfl⟩))
    (fun os started H enc _ => PartsComplete_lifted os started H enc)
theorem PartsComplete_holds : Rows.PartsCompleteCardSaid :=
  Claim7.holds_tied_plain_at .later [] [.data, .data] true Rows.partsCompleteCard.stood.harness false
    PartsComplete_said (fun _ h => by cases h) (by kernel_rfl) (fun _ h => by cases h) partsComplete_row_tie rfl ⟨rfl, rfl⟩ (by kernel_rfl) rfl
    (fun f fn hf hfn => by
      obtain rfl : f = 9 := Option.some.inj ((show Tryd.prog.funcNamed Rows.partsCompleteRow.func = some 9 by kernel_rfl).symm.trans hf) |>.symm
      obtain rfl : fn = Tryd.f9 := (Option.some.inj ((show Tryd.prog.funcs[9]? = some Tryd.f9 by kernel_rfl).symm.trans hfn)).symm
      exact ⟨by kernel_rfl, fun j t ht => by
        have hall : (Tryd.f9.params.toList.all fun t => !Tryd.prog.wantsStandIn t) = true := by kernel_rfl
        have hm : t ∈ Tryd.f9.params.toList := by
          obtain ⟨h, e⟩ := Array.getElem?_eq_some_iff.1 ht
          rw [← e]; exact Array.mem_toList_iff.2 (Array.getElem_mem h)
        have := List.all_eq_true.1 hall t hm
        exact (show Tryd.prog.wantsStandIn t = false by simpa using this)⟩)
    (by kernel_rfl)
#print axioms PartsComplete_holds
end Go.Proofs.YtcbcajnkdknkdaaDoor
