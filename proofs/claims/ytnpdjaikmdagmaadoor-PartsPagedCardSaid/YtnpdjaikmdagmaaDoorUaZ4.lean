/- PartsPaged: for every input the law returns true, and its input reads as it did; its package variables hold what the program's text lays. No conditions. -/
import Derived.Test.YtnpdjaikmdagmaaDoorRows
import Derived.Test.YtnpdjaikmdagmaaDoorTie
import Derived.Test.YtnpdjaikmdagmaaDoorCards
import Derived.Test.YtnpdjaikmdagmaaDoorP20
import Derived.Lay
import Derived.SevenTiedAt
set_option linter.unusedSimpArgs false
set_option linter.unusedVariables false
set_option linter.unusedSectionVars false
set_option maxRecDepth 100000
namespace Go.Proofs.YtnpdjaikmdagmaaDoor
open Go.Sx Go.ChangeShapes Go.WideShapes Go.ChangeAt Go.RowKit

theorem PartsPaged_lifted (os : Os) (started : os.Started) (H : Type) (enc : TypeId × Value → H) :
    ReturnsInHanded {} Tryd.checked os 4 .any (fun w args => (Rows.partsPagedSpec.pre enc Tryd.prog Tryd.f4 Rows.partsPagedRow.domain false w args ∧ laidMetH Tryd.prog Rows.partsPagedRow.laid w) ∧ sizedMet enc Tryd.prog Tryd.f4 (OpenSpec.ofChange Rows.partsPagedSpec) false w args)
      (Rows.partsPagedSpec.post enc Tryd.prog Tryd.f4 false true false false) := by
  refine law_laid (C := Tryd.checked) (fn := Tryd.f4) (S := lawPdS) (X := fun w _ => laidMetH Tryd.prog Rows.partsPagedRow.laid w) started 6 4 (fun _ _ _ hh h => h.of_heap hh) (fun w _ h => laid_gok h) (by kernel_rfl) (by kernel_rfl) (by kernel_rfl) (by kernel_rfl) ok4 rfl ?_ rfl (by kernel_rfl) (by kernel_rfl) ?_
    (ChangeSpec.witness_shaped (enc := enc) (C := Tryd.checked) (os := os) (X := fun w _ => laidMetH Tryd.prog Rows.partsPagedRow.laid w) false (World.laidAll Tryd.prog os Rows.partsPagedRow.laid) #[.int .i64 0, .slice none 0 0] 8 (World.laidAll_os _ _ _)
      (World.shaped_of_ZipB (by kernel_rfl) (by kernel_rfl)) (by kernel_rfl) (by kernel_rfl) (by kernel_rfl)
      (by rw [MakeChecks.laidMetH_plain _ _ _ (by kernel_rfl)]; exact laidMet_laidAll _ (by kernel_rfl) (by kernel_rfl)))
  · intro ds hd
    have hd' : ds.length = 2 := hd
    match ds, hd' with
    | [d0, d1], _ => rfl
  · intro xs hl hx
    have hl' : xs.length = 2 := hl
    match xs, hl' with
    | [x0, x1], _ =>
      obtain ⟨v0, h0⟩ := int_of (g := 5) (hx 0 3 x0 rfl rfl)
      obtain ⟨v1, h1, b1⟩ := sps_of (g := 3) (hx 1 22 x1 rfl rfl)
      exact ⟨(v0, v1), (by show v1.length ≤ 10000000000000; omega), rfl, by subst h0 h1; rfl⟩
theorem PartsPaged_said : Rows.PartsPagedSaid :=
  OpenClaim.holds_of_wide 4 Tryd.f4 rfl rfl rfl rfl rfl rfl rfl ⟨rfl, rfl, rfl, rfl, rfl⟩ rfl rfl rfl rfl rfl (by kernel_rfl) (by kernel_rfl) (by kernel_rfl)
    (of_decide_eq_true (by kernel_rfl)) (by unfold Func.isWrapper; first | (rw [if_pos (by decide +kernel)]; kernel_rfl) | (rw [if_neg (by decide +kernel)]; exact ⟨rfl, rfl⟩))
    (fun os started H enc _ => PartsPaged_lifted os started H enc)
theorem PartsPaged_holds : Rows.PartsPagedCardSaid :=
  Claim7.holds_tied_plain_at .later [] [.data, .data] true Rows.partsPagedCard.stood.harness false
    PartsPaged_said (fun _ h => by cases h) (by kernel_rfl) (fun _ h => by cases h) partsPaged_row_tie rfl ⟨rfl, rfl⟩ (by kernel_rfl) rfl
    (fun f fn hf hfn => by
      obtain rfl : f = 4 := Option.some.inj ((show Tryd.prog.funcNamed Rows.partsPagedRow.func = some 4 by kernel_rfl).symm.trans hf) |>.symm
      obtain rfl : fn = Tryd.f4 := (Option.some.inj ((show Tryd.prog.funcs[4]? = some Tryd.f4 by kernel_rfl).symm.trans hfn)).symm
      exact ⟨by kernel_rfl, fun j t ht => by
        have hall : (Tryd.f4.params.toList.all fun t => !Tryd.prog.wantsStandIn t) = true := by kernel_rfl
        have hm : t ∈ Tryd.f4.params.toList := by
          obtain ⟨h, e⟩ := Array.getElem?_eq_some_iff.1 ht
          rw [← e]; exact Array.mem_toList_iff.2 (Array.getElem_mem h)
        have := List.all_eq_true.1 hall t hm
        exact (show Tryd.prog.wantsStandIn t = false by simpa using this)⟩)
    (by kernel_rfl)
#print axioms PartsPaged_holds
end Go.Proofs.YtnpdjaikmdagmaaDoor
