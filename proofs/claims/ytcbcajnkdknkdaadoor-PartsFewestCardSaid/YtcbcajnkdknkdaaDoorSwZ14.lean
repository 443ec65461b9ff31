/- PartsFewest: for every input the law returns true, and its input reads as it did; its package variables hold what the program's text lays. No conditions. -/
import Derived.Test.YtcbcajnkdknkdaaDoorRows
import Derived.Test.YtcbcajnkdknkdaaDoorTie
import Derived.Test.YtcbcajnkdknkdaaDoorCards
import Derived.Test.YtcbcajnkdknkdaaDoorP19
import Derived.Test.YtcbcajnkdknkdaaDoorP20
import Derived.Lay
import Derived.SevenTiedAt
set_option linter.unusedSimpArgs false
set_option linter.unusedVariables false
set_option linter.unusedSectionVars false
set_option maxRecDepth 100000
namespace Go.Proofs.YtcbcajnkdknkdaaDoor
open Go.Sx Go.ChangeShapes Go.WideShapes Go.ChangeAt Go.RowKit

theorem PartsFewest_lifted (os : Os) (started : os.Started) (H : Type) (enc : TypeId × Value → H) :
    ReturnsInHanded {} Tryd.checked os 14 .any (fun w args => (Rows.partsFewestSpec.pre enc Tryd.prog Tryd.f14 Rows.partsFewestRow.domain false w args ∧ laidMetH Tryd.prog Rows.partsFewestRow.laid w) ∧ sizedMet enc Tryd.prog Tryd.f14 (OpenSpec.ofChange Rows.partsFewestSpec) false w args)
      (Rows.partsFewestSpec.post enc Tryd.prog Tryd.f14 false true false false) := by
  refine law_laid (C := Tryd.checked) (fn := Tryd.f14) (S := lawFwS) (X := fun w _ => laidMetH Tryd.prog Rows.partsFewestRow.laid w) started 6 4 (fun _ _ _ hh h => h.of_heap hh) (fun w _ h => laid_gok h) (by kernel_rfl) (by kernel_rfl) (by kernel_rfl) (by kernel_rfl) ok14 rfl ?_ rfl (by kernel_rfl) (by kernel_rfl) ?_
    (ChangeSpec.witness_shaped (enc := enc) (C := Tryd.checked) (os := os) (X := fun w _ => laidMetH Tryd.prog Rows.partsFewestRow.laid w) false (World.laidAll Tryd.prog os Rows.partsFewestRow.laid) #[.slice none 0 0, .slice none 0 0, .agg #[.slice none 0 0, .int .i64 0, .int .i64 0]] 8 (World.laidAll_os _ _ _)
      (World.shaped_of_ZipB (by kernel_rfl) (by kernel_rfl)) (by kernel_rfl) (by kernel_rfl) (by kernel_rfl)
      (by rw [MakeChecks.laidMetH_plain _ _ _ (by kernel_rfl)]; exact laidMet_laidAll _ (by kernel_rfl) (by kernel_rfl)))
  · intro ds hd
    have hd' : ds.length = 3 := hd
    match ds, hd' with
    | [d0, d1, d2], _ => rfl
  · intro xs hl hx
    have hl' : xs.length = 3 := hl
    match xs, hl' with
    | [x0, x1, x2], _ =>
      obtain ⟨v0, h0, a0⟩ := ints_of (g := 4) (hx 0 22 x0 rfl rfl)
      obtain ⟨v1, h1, a1⟩ := ints_of (g := 4) (hx 1 22 x1 rfl rfl)
      obtain ⟨v2, h2, a2⟩ := other_of (g := 3) (hx 2 76 x2 rfl rfl)
      exact ⟨⟨v0, v1, v2.l, v2.a, v2.b⟩, ⟨Nat.le_trans a0 (by decide), Nat.le_trans a1 (by decide), Nat.le_trans a2 (by decide)⟩, rfl, by subst h0 h1 h2; rfl⟩
theorem PartsFewest_said : Rows.PartsFewestSaid :=
  OpenClaim.holds_of_wide 14 Tryd.f14 rfl rfl rfl rfl rfl rfl rfl ⟨rfl, rfl, rfl, rfl, rfl⟩ rfl rfl rfl rfl rfl (by kernel_rfl) (by kernel_rfl) (by kernel_rfl)
    (of_decide_eq_true (by kernel_rfl)) (by unfold Func.isWrapper; first | (rw [if_pos (by decide +kernel)]; kernel_rfl) | (rw [if_neg (by decide +kernel)]; exact ⟨rfl, rfl⟩))
    (fun os started H enc _ => PartsFewest_lifted os started H enc)
theorem PartsFewest_holds : Rows.PartsFewestCardSaid :=
  Claim7.holds_tied_plain_at .later [] [.data, .data] true Rows.partsFewestCard.stood.harness false
    PartsFewest_said (fun _ h => by cases h) (by kernel_rfl) (fun _ h => by cases h) partsFewest_row_tie rfl ⟨rfl, rfl⟩ (by kernel_rfl) rfl
    (fun f fn hf hfn => by
      obtain rfl : f = 14 := Option.some.inj ((show Tryd.prog.funcNamed Rows.partsFewestRow.func = some 14 by kernel_rfl).symm.trans hf) |>.symm
      obtain rfl : fn = Tryd.f14 := (Option.some.inj ((show Tryd.prog.funcs[14]? = some Tryd.f14 by kernel_rfl).symm.trans hfn)).symm
      exact ⟨by kernel_rfl, fun j t ht => by
        have hall : (Tryd.f14.params.toList.all fun t => !Tryd.prog.wantsStandIn t) = true := by kernel_rfl
        have hm : t ∈ Tryd.f14.params.toList := by
          obtain ⟨h, e⟩ := Array.getElem?_eq_some_iff.1 ht
          rw [← e]; exact Array.mem_toList_iff.2 (Array.getElem_mem h)
        have := List.all_eq_true.1 hall t hm
        exact (show Tryd.prog.wantsStandIn t = false by simpa using this)⟩)
    (by kernel_rfl)
#print axioms PartsFewest_holds
end Go.Proofs.YtcbcajnkdknkdaaDoor
