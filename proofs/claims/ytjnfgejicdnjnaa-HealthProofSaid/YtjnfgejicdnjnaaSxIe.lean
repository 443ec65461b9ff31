/- HealthExplains' contract. No conditions. -/
import Derived.Test.YtjnfgejicdnjnaaSxId
set_option linter.unusedSimpArgs false
set_option linter.unusedVariables false
set_option maxRecDepth 100000
set_option maxHeartbeats 1000000
namespace Go.Sx
open Go.Proofs

abbrev trueExS : PSpec := { dom := (Int × Int) × List (Int × Int), enc := fun d => [.agg [.int .i64 d.1.1, .int .i64 d.1.2], .sl 2 (d.2.map rowC)], dec := fun l => ((((l.getD 0 .top).cs.getD 0 .top).toInt, ((l.getD 0 .top).cs.getD 1 .top).toInt), (l.getD 1 .top).toCells), pre := fun d => d.2.length ≤ 9223372036854775807, res := fun _ => .bool true }
theorem natI_short (l : List Nat) (p : Int → Bool) : ((natI l).filter p).length ≤ l.length := by
  have := List.length_filter_le p (natI l)
  simpa using this
theorem ex_len {se ge : Int} {cells : List (Int × Int)} : (explR se ge cells).1.length ≤ 9223372036854775807 ∧ (explR se ge cells).2.1.length ≤ 9223372036854775807 := by
  unfold explR
  split
  · have := expTo_mem (bysN se cells) _ _ (minX_mem (expN_pos (bysN se cells) se.toNat))
    simp only
    have h1 : (minX (expN (bysN se cells) se.toNat)).1.length ≤ 62 := this.1
    have h2 : (minX (expN (bysN se cells) se.toNat)).2.length ≤ 62 := this.2
    omega
  · simp
theorem com_len (b : Bool) {bs : List Nat} {n : Nat} : (commonZ b (expN bs n)).length ≤ 62 := by
  have hm := expTo_mem bs _ ((expN bs n).getD 0 ([], [])) (by
    have := expN_pos bs n
    simp only [List.getD, List.getElem?_eq_getElem this, Option.getD_some]
    exact List.getElem_mem this)
  unfold commonZ
  have := List.length_filter_le (fun n_1 => (expN bs n).all fun x => (sel b x).contains n_1) (sel b ((expN bs n).getD 0 ([], [])))
  unfold sel at this ⊢
  split at this <;> split <;> simp_all <;> omega
theorem ce_len {se ge : Int} {cells : List (Int × Int)} : (certR se ge cells).1.length ≤ 9223372036854775807 ∧ (certR se ge cells).2.1.length ≤ 9223372036854775807 := by
  unfold certR
  split
  · have h1 := com_len true (bs := bysN se cells) (n := se.toNat)
    have h2 := com_len false (bs := bysN se cells) (n := se.toNat)
    simp only
    omega
  · simp
noncomputable abbrev E9 : Env := { P := Try.prog, fn := tbl [(28, .pure ExplainS), (30, .pure ExplainS), (29, .pure sameS), (31, .pure CertainS), (32, .pure CertainS), (18, .pure worksS)], own := [], key := 900, nt := 82 }
theorem b9 : PureBody E9 [] Try.f9 trueExS := by
  refine pb ?_
  rintro ⟨⟨se, ge⟩, cells⟩ hl
  simp only at hl
  obtain ⟨a1, a2⟩ := ex_len (se := se) (ge := ge) (cells := cells)
  obtain ⟨b1, b2⟩ := ce_len (se := se) (ge := ge) (cells := cells)
  simp -dsimp [Try.f9, E9, ints]
  repeat' (first | omega | (simp -dsimp [E9, ri, cellp, ints, hl, a1, a2, b1, b2]) | (refine Also.intro ?_ fun _ => ?_) | (refine Hold.intro fun _ => ?_) | (refine And.intro ?_ ?_))
theorem ok9 : FnOK Try.prog 9 (.pure trueExS) := pure_fn (E := E9) rfl (.cons ok28 (.cons ok30 (.cons ok29 (.cons ok31 (.cons ok32 (.cons ok18 .nil)))))) (ok := []) (fn := Try.f9) (by kernel_rfl) (by kernel_rfl) (by kernel_rfl) (by kernel_rfl) rfl (fun _ _ => by simp) b9
end Go.Sx

