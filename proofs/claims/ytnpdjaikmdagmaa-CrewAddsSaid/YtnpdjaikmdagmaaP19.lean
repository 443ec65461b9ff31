/- A part of a proof; no conditions. -/
import Derived.Test.YtnpdjaikmdagmaaP18
import Derived.Test.YtnpdjaikmdagmaaP12
import Derived.Test.YtnpdjaikmdagmaaP11
set_option linter.unusedSimpArgs false
set_option linter.unusedVariables false
set_option linter.unusedSectionVars false
section
/- Crew: who may not fly over water: the program's, the reference's. No conditions. -/
set_option linter.unusedSimpArgs false
set_option linter.unusedSectionVars false
set_option maxRecDepth 100000
set_option maxHeartbeats 2000000
namespace Go.Sx
open Go.Proofs
attribute [local irreducible] HLe

noncomputable abbrev E40 : Env := { P := Try.prog, fn := tbl [], own := [], key := 4000, nt := 15 }
theorem b40 : PureBody E40 [] Try.f40 withinS := by
  refine pb ?_
  rintro ⟨n, a, b⟩ _
  simp -dsimp [Try.f40, E40, withinB]
  repeat' (first | omega | (simp -dsimp [E40, ri, cellp, ints, *]) | (refine Also.intro ?_ fun _ => ?_) | (refine Hold.intro fun _ => ?_) | (refine And.intro ?_ ?_))
theorem ok40 : FnOK Try.prog 40 (.pure withinS) := pure_fn (E := E40) rfl LOK.nil (ok := []) (fn := Try.f40) (by kernel_rfl) (by kernel_rfl) (by kernel_rfl) (by kernel_rfl) rfl (fun _ _ => by simp) b40
theorem gue_none {l : List Gu} (h : ∀ j (h : j < l.length), guN l[j] = false) : l.any guN = false := by
  rw [List.any_eq_false]
  intro g hg
  obtain ⟨j, hj, rfl⟩ := List.getElem_of_mem hg
  simp [h j hj]
theorem gue_bad {l : List Gu} {k : Nat} (hk : k < l.length) (h : guN l[k] = true) : l.any guN = true := by
  rw [List.any_eq_true]; exact ⟨_, List.getElem_mem hk, h⟩
noncomputable abbrev E39 : Env := { P := Try.prog, fn := tbl [(40, .pure withinS)], own := [], key := 3900, nt := 32 }
theorem b39 : PureBody E39 [] Try.f39 grS := by
  refine pb ?_
  rintro ⟨l, n⟩ hl
  have hl : l.length ≤ 1000000 := hl
  have hg := gue_of l n
  by_cases hn : n < l.length
  · rw [if_pos hn] at hg
    simp -dsimp [Try.f39, E39]
    repeat' (first | omega | (simp -dsimp [E39, ri, cellp, ints, hl, hn, hg]) | (refine Also.intro ?_ fun _ => ?_) | (refine Hold.intro fun _ => ?_) | (refine And.intro ?_ ?_))
  rw [if_neg hn] at hg
  have hn' : (n < (l.length : Int)) = False := eq_false hn
  simp -dsimp [Try.f39, E39]
  repeat' (first | omega | (simp -dsimp [E39, ri, cellp, ints, hl, hn']) | (refine Also.intro ?_ fun _ => ?_) | (refine Hold.intro fun _ => ?_) | (refine And.intro ?_ ?_))
  refine awp_loop [10, 11, 12, 13, 16, 17, 18, 19, 20, 21, 22, 23, 24, 25, 26, 27, 28, 29, 30, 31, 4, 14, 15, 5] (fun k : { k : Nat // k ≤ l.length ∧ ∀ j (h : j < l.length), j < k → guN l[j] = false } => [(5, (true, .int .i64 k.1))]) (fun _ => noH) (fun k => l.length - k.1) ⟨0, by omega, fun _ _ h => by omega⟩ ?_ (HLe.refl _) ?_
  · simp [okAll, okv]
  rintro ⟨k, hk, hall⟩
  dsimp only
  by_cases hk1 : k < l.length
  · have hki : (k : Int) < l.length := by omega
    have wk : IntKind.wrap .i64 ((k : Int) + 1) = (k + 1 : Nat) := wrap_id (by omega) (by omega)
    obtain ⟨g, hu⟩ : ∃ g, l[k]? = some g := ⟨_, List.getElem?_eq_getElem hk1⟩
    have hu' : l[k] = g := (List.getElem?_eq_some_iff.1 hu).2
    have hD : guN g = (!withinB g.w 1 500 || !withinB g.dive 0 2000) := rfl
    cases h1 : withinB g.w 1 500 <;> rw [h1] at hD
    · have hz := gue_bad hk1 (by rw [hu', hD]; rfl)
      rw [hz, if_pos rfl] at hg
      simp -dsimp [hki]
      repeat' (first | omega | (simp -dsimp [E39, ri, cellp, ints, hki, hk1, hu, hu', h1, hg, Gu.row]) | (refine Also.intro ?_ fun _ => ?_) | (refine Hold.intro fun _ => ?_) | (refine And.intro ?_ ?_))
    · cases h2 : withinB g.dive 0 2000 <;> rw [h2] at hD
      · have hz := gue_bad hk1 (by rw [hu', hD]; rfl)
        rw [hz, if_pos rfl] at hg
        simp -dsimp [hki]
        repeat' (first | omega | (simp -dsimp [E39, ri, cellp, ints, hki, hk1, hu, hu', h1, h2, hg, Gu.row]) | (refine Also.intro ?_ fun _ => ?_) | (refine Hold.intro fun _ => ?_) | (refine And.intro ?_ ?_))
      · simp -dsimp [hki]
        repeat' (first | omega | (simp -dsimp [E39, ri, cellp, ints, hki, hk1, hu, hu', h1, h2, wk, Gu.row]) | (refine Also.intro ?_ fun _ => ?_) | (refine Hold.intro fun _ => ?_) | (refine And.intro ?_ ?_))
        refine ⟨k + 1, tle_chain rfl ?_, HLe.refl _, ⟨by omega, fun j h hj => ?_⟩, by omega⟩
        · simp [okAll, okv]
        · by_cases hjk : j = k
          · subst hjk; rw [hu', hD]; rfl
          · exact hall j h (by omega)
  · have hkn : ¬ (k : Int) < l.length := by omega
    rw [gue_none fun j h => hall j h (by omega), if_neg (by decide)] at hg
    simp -dsimp [hkn]
    repeat' (first | omega | (simp -dsimp [E39, ri, cellp, ints, hkn, hg]) | (refine Also.intro ?_ fun _ => ?_) | (refine Hold.intro fun _ => ?_) | (refine And.intro ?_ ?_))
theorem ok39 : FnOK Try.prog 39 (.pure grS) := pure_fn (E := E39) rfl (.cons ok40 .nil) (ok := []) (fn := Try.f39) (by kernel_rfl) (by kernel_rfl) (by kernel_rfl) (by kernel_rfl) rfl (fun _ _ => by simp) b39

/-! over water -/
def wetB (g : Gu) (t : Int) : Bool := !g.suit || decide (g.dive < t)
def wetTo (l : List Gu) (t : Int) : Nat → List Int
  | 0 => []
  | k + 1 => if wetB (guAt l k) t = true then wetTo l t k ++ [(k : Int)] else wetTo l t k
theorem wetTo_len (l : List Gu) (t : Int) : ∀ k, (wetTo l t k).length ≤ k
  | 0 => by simp [wetTo]
  | k + 1 => by
    have ih := wetTo_len l t k
    rw [wetTo]
    split
    · simp; omega
    · omega
def wetO (l : List Gu) (t : Int) : List Int × Int := if gueE l 8 = 0 then (if withinB t 0 2000 = true then (wetTo l t l.length, 0) else ([], 1)) else ([], gueE l 8)
noncomputable abbrev wetS : PSpec := mkP grE (fun d => d.1.length ≤ 1000000) fun d => .tup [ints (wetO d.1 d.2).1, .int .i64 (wetO d.1 d.2).2]
noncomputable abbrev E10 : Env := { P := Try.prog, fn := tbl [(37, .pure grS), (38, .pure timeS)], own := [], key := 1000, nt := 39 }
theorem b10 : PureBody E10 [] Try.f10 wetS := by
  refine pb ?_
  rintro ⟨l, t⟩ hl
  have hl : l.length ≤ 1000000 := hl
  have hK : wetO l t = if gueE l 8 = 0 then (if withinB t 0 2000 = true then (wetTo l t l.length, 0) else ([], 1)) else ([], gueE l 8) := rfl
  by_cases h0 : gueE l 8 = 0
  case neg =>
    rw [if_neg h0] at hK
    have h0' : (gueE l 8 = 0) = False := eq_false h0
    simp -dsimp [Try.f10, E10]
    repeat' (first | omega | (simp -dsimp [E10, ri, cellp, ints, hl, grE_dec, h0', hK]) | (refine Also.intro ?_ fun _ => ?_) | (refine Hold.intro fun _ => ?_) | (refine And.intro ?_ ?_))
  rw [if_pos h0] at hK
  cases h1 : withinB t 0 2000 <;> rw [h1] at hK
  · have hK : wetO l t = ([], 1) := hK
    simp -dsimp [Try.f10, E10]
    repeat' (first | omega | (simp -dsimp [E10, ri, cellp, ints, hl, grE_dec, h0, h1, hK]) | (refine Also.intro ?_ fun _ => ?_) | (refine Hold.intro fun _ => ?_) | (refine And.intro ?_ ?_))
  have hK : wetO l t = (wetTo l t l.length, 0) := hK
  simp -dsimp [Try.f10, E10]
  repeat' (first | omega | (simp -dsimp [E10, ri, cellp, ints, hl, grE_dec, h0, h1]) | (refine Also.intro ?_ fun _ => ?_) | (refine Hold.intro fun _ => ?_) | (refine And.intro ?_ ?_))
  refine awp_loop_g [(4, 1036, 1, 3)] rfl (by simp) [20, 21, 22, 23, 8, 7, 24, 25, 26, 27, 28, 29, 30, 31, 32, 33, 34, 35, 36, 4, 37, 19] (fun k : { k : Nat // k ≤ l.length } => [(19, (true, .int .i64 k.1)), (4, (true, .bsl 1036 0 (wetTo l t k.1).length))]) (fun k => hps [(1036, { base := 0, blks := [{ z := 1, els := (wetTo l t k.1).map ri, ty := 3 }] }), (1008, { base := k.1, blks := [] })] noH) (fun k => l.length - k.1) ⟨0, by omega⟩ ?_ ?_ ?_
  · simp [okAll, okv, wetTo]
  · exact (by (try simp -dsimp only [hpush_noH, hpush_hps, hps_over]); refine hle_hps ?_; simp -dsimp [allK, wetTo]; repeat' (first | (refine And.intro ?_ ?_) | (refine sLe.same ?_ ?_ <;> (simp; done)) | (refine sLe.clear ?_ ?_ <;> (first | (simp; done) | (simp; omega))) | (refine sLe.drop 1 ?_ ?_ ?_ <;> (simp; done))))
  rintro ⟨k, hk⟩
  dsimp only
  have hwl := wetTo_len l t k
  by_cases hk1 : k < l.length
  · have hki : (k : Int) < l.length := by omega
    have wk : IntKind.wrap .i64 ((k : Int) + 1) = (k + 1 : Nat) := wrap_id (by omega) (by omega)
    obtain ⟨g, hu⟩ : ∃ g, l[k]? = some g := ⟨_, List.getElem?_eq_getElem hk1⟩
    have hu' : l[k] = g := (List.getElem?_eq_some_iff.1 hu).2
    have hS : wetTo l t (k + 1) = if wetB g t = true then wetTo l t k ++ [(k : Int)] else wetTo l t k := by rw [wetTo, show guAt l k = g by simp [guAt, List.getD, hu]]
    have hb8 : ((wetTo l t k).length + 1) * 8 ≤ 140737488355328 := by omega
    have hD : wetB g t = (!g.suit || decide (g.dive < t)) := rfl
    cases h2 : g.suit <;> rw [h2] at hD
    · rw [if_pos (by rw [hD]; rfl)] at hS
      simp -dsimp [hki]
      repeat' (first | omega | (simp -dsimp [E10, ri, cellp, ints, hki, hk1, hu, hu', h2, wk, hb8, Gu.row]) | (refine Also.intro ?_ fun _ => ?_) | (refine Hold.intro fun _ => ?_) | (refine And.intro ?_ ?_))
      refine ⟨k + 1, tle_chain rfl ?_, ?_, by omega, by omega⟩
      · simp [okAll, okv, hS]
      · rw [hS]; exact (by (try simp -dsimp only [hpush_noH, hpush_hps, hps_over]); refine hle_hps ?_; simp -dsimp [allK, ri]; repeat' (first | (refine And.intro ?_ ?_) | (refine sLe.same ?_ ?_ <;> (simp; done)) | (refine sLe.clear ?_ ?_ <;> (first | (simp; done) | (simp; omega))) | (refine sLe.drop 1 ?_ ?_ ?_ <;> (simp; done))))
    · by_cases h3 : g.dive < t
      · rw [if_pos (by rw [hD, decide_eq_true h3]; rfl)] at hS
        simp -dsimp [hki]
        repeat' (first | omega | (simp -dsimp [E10, ri, cellp, ints, hki, hk1, hu, hu', h2, h3, wk, hb8, Gu.row]) | (refine Also.intro ?_ fun _ => ?_) | (refine Hold.intro fun _ => ?_) | (refine And.intro ?_ ?_))
        refine ⟨k + 1, tle_chain rfl ?_, ?_, by omega, by omega⟩
        · simp [okAll, okv, hS]
        · rw [hS]; exact (by (try simp -dsimp only [hpush_noH, hpush_hps, hps_over]); refine hle_hps ?_; simp -dsimp [allK, ri]; repeat' (first | (refine And.intro ?_ ?_) | (refine sLe.same ?_ ?_ <;> (simp; done)) | (refine sLe.clear ?_ ?_ <;> (first | (simp; done) | (simp; omega))) | (refine sLe.drop 1 ?_ ?_ ?_ <;> (simp; done))))
      · rw [if_neg (by rw [hD, decide_eq_false h3]; decide)] at hS
        have h3' : (g.dive < t) = False := eq_false h3
        simp -dsimp [hki]
        repeat' (first | omega | (simp -dsimp [E10, ri, cellp, ints, hki, hk1, hu, hu', h2, h3', wk, Gu.row]) | (refine Also.intro ?_ fun _ => ?_) | (refine Hold.intro fun _ => ?_) | (refine And.intro ?_ ?_))
        refine ⟨k + 1, tle_chain rfl ?_, ?_, by omega, by omega⟩
        · simp [okAll, okv, hS]
        · rw [hS]; exact (by (try simp -dsimp only [hpush_noH, hpush_hps, hps_over]); refine hle_hps ?_; simp -dsimp [allK, ri]; repeat' (first | (refine And.intro ?_ ?_) | (refine sLe.same ?_ ?_ <;> (simp; done)) | (refine sLe.clear ?_ ?_ <;> (first | (simp; done) | (simp; omega))) | (refine sLe.drop 1 ?_ ?_ ?_ <;> (simp; done))))
  · have hkn : ¬ (k : Int) < l.length := by omega
    have hke : k = l.length := by omega
    subst hke
    simp -dsimp [hkn]
    repeat' (first | omega | (simp -dsimp [E10, ri, cellp, ints, hkn, hK]) | (refine Also.intro ?_ fun _ => ?_) | (refine Hold.intro fun _ => ?_) | (refine And.intro ?_ ?_))
theorem ok10 : FnOK Try.prog 10 (.pure wetS) := pure_fn (E := E10) rfl (.cons ok37 (.cons ok38 .nil)) (ok := []) (fn := Try.f10) (by kernel_rfl) (by kernel_rfl) (by kernel_rfl) (by kernel_rfl) rfl (fun _ _ => by simp) b10
noncomputable abbrev E12 : Env := { P := Try.prog, fn := tbl [(39, .pure grS), (40, .pure withinS)], own := [], key := 1200, nt := 43 }
theorem b12 : PureBody E12 [] Try.f12 wetS := by
  refine pb ?_
  rintro ⟨l, t⟩ hl
  have hl : l.length ≤ 1000000 := hl
  have hK : wetO l t = if gueE l 8 = 0 then (if withinB t 0 2000 = true then (wetTo l t l.length, 0) else ([], 1)) else ([], gueE l 8) := rfl
  by_cases h0 : gueE l 8 = 0
  case neg =>
    rw [if_neg h0] at hK
    have h0' : (gueE l 8 = 0) = False := eq_false h0
    simp -dsimp [Try.f12, E12]
    repeat' (first | omega | (simp -dsimp [E12, ri, cellp, ints, hl, grE_dec, h0', hK]) | (refine Also.intro ?_ fun _ => ?_) | (refine Hold.intro fun _ => ?_) | (refine And.intro ?_ ?_))
  rw [if_pos h0] at hK
  cases h1 : withinB t 0 2000 <;> rw [h1] at hK
  · have hK : wetO l t = ([], 1) := hK
    simp -dsimp [Try.f12, E12]
    repeat' (first | omega | (simp -dsimp [E12, ri, cellp, ints, hl, grE_dec, h0, h1, hK]) | (refine Also.intro ?_ fun _ => ?_) | (refine Hold.intro fun _ => ?_) | (refine And.intro ?_ ?_))
  have hK : wetO l t = (wetTo l t l.length, 0) := hK
  simp -dsimp [Try.f12, E12]
  repeat' (first | omega | (simp -dsimp [E12, ri, cellp, ints, hl, grE_dec, h0, h1]) | (refine Also.intro ?_ fun _ => ?_) | (refine Hold.intro fun _ => ?_) | (refine And.intro ?_ ?_))
  refine awp_loop_g [(7, 1241, 1, 3)] rfl (by simp) [17, 18, 19, 20, 23, 24, 25, 26, 27, 28, 29, 30, 31, 32, 33, 34, 35, 36, 37, 38, 39, 40, 41, 7, 21, 22, 8] (fun k : { k : Nat // k ≤ l.length } => [(8, (true, .int .i64 k.1)), (7, (true, .bsl 1241 0 (wetTo l t k.1).length))]) (fun k => hps [(1241, { base := 0, blks := [{ z := 1, els := (wetTo l t k.1).map ri, ty := 3 }] })] noH) (fun k => l.length - k.1) ⟨0, by omega⟩ ?_ ?_ ?_
  · simp [okAll, okv, wetTo]
  · exact (by (try simp -dsimp only [hpush_noH, hpush_hps, hps_over]); refine hle_hps ?_; simp -dsimp [allK, wetTo]; repeat' (first | (refine And.intro ?_ ?_) | (refine sLe.same ?_ ?_ <;> (simp; done)) | (refine sLe.clear ?_ ?_ <;> (first | (simp; done) | (simp; omega))) | (refine sLe.drop 1 ?_ ?_ ?_ <;> (simp; done))))
  rintro ⟨k, hk⟩
  dsimp only
  have hwl := wetTo_len l t k
  by_cases hk1 : k < l.length
  · have hki : (k : Int) < l.length := by omega
    have wk : IntKind.wrap .i64 ((k : Int) + 1) = (k + 1 : Nat) := wrap_id (by omega) (by omega)
    obtain ⟨g, hu⟩ : ∃ g, l[k]? = some g := ⟨_, List.getElem?_eq_getElem hk1⟩
    have hu' : l[k] = g := (List.getElem?_eq_some_iff.1 hu).2
    have hS : wetTo l t (k + 1) = if wetB g t = true then wetTo l t k ++ [(k : Int)] else wetTo l t k := by rw [wetTo, show guAt l k = g by simp [guAt, List.getD, hu]]
    have hb8 : ((wetTo l t k).length + 1) * 8 ≤ 140737488355328 := by omega
    have hD : wetB g t = (!g.suit || decide (g.dive < t)) := rfl
    cases h2 : g.suit <;> rw [h2] at hD
    · rw [if_pos (by rw [hD]; rfl)] at hS
      simp -dsimp [hki]
      repeat' (first | omega | (simp -dsimp [E12, ri, cellp, ints, hki, hk1, hu, hu', h2, wk, hb8, Gu.row]) | (refine Also.intro ?_ fun _ => ?_) | (refine Hold.intro fun _ => ?_) | (refine And.intro ?_ ?_))
      refine ⟨k + 1, tle_chain rfl ?_, ?_, by omega, by omega⟩
      · simp [okAll, okv, hS]
      · rw [hS]; exact (by (try simp -dsimp only [hpush_noH, hpush_hps, hps_over]); refine hle_hps ?_; simp -dsimp [allK, ri]; repeat' (first | (refine And.intro ?_ ?_) | (refine sLe.same ?_ ?_ <;> (simp; done)) | (refine sLe.clear ?_ ?_ <;> (first | (simp; done) | (simp; omega))) | (refine sLe.drop 1 ?_ ?_ ?_ <;> (simp; done))))
    · by_cases h3 : g.dive < t
      · rw [if_pos (by rw [hD, decide_eq_true h3]; rfl)] at hS
        simp -dsimp [hki]
        repeat' (first | omega | (simp -dsimp [E12, ri, cellp, ints, hki, hk1, hu, hu', h2, h3, wk, hb8, Gu.row]) | (refine Also.intro ?_ fun _ => ?_) | (refine Hold.intro fun _ => ?_) | (refine And.intro ?_ ?_))
        refine ⟨k + 1, tle_chain rfl ?_, ?_, by omega, by omega⟩
        · simp [okAll, okv, hS]
        · rw [hS]; exact (by (try simp -dsimp only [hpush_noH, hpush_hps, hps_over]); refine hle_hps ?_; simp -dsimp [allK, ri]; repeat' (first | (refine And.intro ?_ ?_) | (refine sLe.same ?_ ?_ <;> (simp; done)) | (refine sLe.clear ?_ ?_ <;> (first | (simp; done) | (simp; omega))) | (refine sLe.drop 1 ?_ ?_ ?_ <;> (simp; done))))
      · rw [if_neg (by rw [hD, decide_eq_false h3]; decide)] at hS
        have h3' : (g.dive < t) = False := eq_false h3
        simp -dsimp [hki]
        repeat' (first | omega | (simp -dsimp [E12, ri, cellp, ints, hki, hk1, hu, hu', h2, h3', wk, Gu.row]) | (refine Also.intro ?_ fun _ => ?_) | (refine Hold.intro fun _ => ?_) | (refine And.intro ?_ ?_))
        refine ⟨k + 1, tle_chain rfl ?_, ?_, by omega, by omega⟩
        · simp [okAll, okv, hS]
        · rw [hS]; exact (by (try simp -dsimp only [hpush_noH, hpush_hps, hps_over]); refine hle_hps ?_; simp -dsimp [allK, ri]; repeat' (first | (refine And.intro ?_ ?_) | (refine sLe.same ?_ ?_ <;> (simp; done)) | (refine sLe.clear ?_ ?_ <;> (first | (simp; done) | (simp; omega))) | (refine sLe.drop 1 ?_ ?_ ?_ <;> (simp; done))))
  · have hkn : ¬ (k : Int) < l.length := by omega
    have hke : k = l.length := by omega
    subst hke
    simp -dsimp [hkn]
    repeat' (first | omega | (simp -dsimp [E12, ri, cellp, ints, hkn, hK]) | (refine Also.intro ?_ fun _ => ?_) | (refine Hold.intro fun _ => ?_) | (refine And.intro ?_ ?_))
theorem ok12 : FnOK Try.prog 12 (.pure wetS) := pure_fn (E := E12) rfl (.cons ok39 (.cons ok40 .nil)) (ok := []) (fn := Try.f12) (by kernel_rfl) (by kernel_rfl) (by kernel_rfl) (by kernel_rfl) rfl (fun _ _ => by simp) b12
end Go.Sx
end
section
/- Crew: what the arguments of the laws read as. No conditions. -/
set_option linter.unusedSimpArgs false
set_option linter.unusedSectionVars false
set_option maxRecDepth 100000
namespace Go.Sx
open Go.Proofs Go.RowKit

/-- A number of the machine. -/
def I64 (n : Int) : Prop := -9223372036854775808 ≤ n ∧ n ≤ 9223372036854775807
theorem tyV_bool {P : Program} {g : Nat} {t : TypeId} {vs : List V} (h : tyV P (g + 1) t vs) (hk : P.underlying t = some .bool) : ∃ b, vs = [.bool b] := by
  simp only [tyV, hk] at h; exact h
theorem int_cellb {g : Nat} {vs : List V} (h : tyV Try.prog (g + 1) 3 vs) : ∃ n, vs = [.int .i64 n] ∧ I64 n := by
  obtain ⟨n, h1, h2⟩ := tyV_int h Ty.ik3
  refine ⟨n, h1, ?_⟩
  have h3 : IntKind.i64.min ≤ n ∧ n ≤ IntKind.i64.max := by simpa only [Lit.wf, Bool.and_eq_true, decide_eq_true_eq] using h2
  rwa [show IntKind.i64.min = -9223372036854775808 by decide, show IntKind.i64.max = 9223372036854775807 by decide] at h3
theorem int_cell {g : Nat} {vs : List V} (h : tyV Try.prog (g + 1) 3 vs) : ∃ n, vs = [.int .i64 n] := by
  obtain ⟨n, h1, _⟩ := int_cellb h; exact ⟨n, h1⟩
theorem bool_cell {g : Nat} {vs : List V} (h : tyV Try.prog (g + 1) 4 vs) : ∃ n, vs = [.bool n] := tyV_bool h (by kernel_rfl)
theorem int_of {g : Nat} {x : V} (h : argTy Try.prog (g + 1) 3 x) : ∃ n, x = .int .i64 n := by
  obtain ⟨n, h1⟩ := int_cell (argTy_one h Ty.ag3)
  exact ⟨n, by simpa using h1⟩
theorem ints_cell {g : Nat} {vs : List V} (h : tyV Try.prog (g + 2) 24 vs) : ∃ l : List Int, vs = [ints l] ∧ l.length ≤ 17592186043904 := by
  obtain ⟨els, h1, h2, h3⟩ := tyV_slw h Ty.se24
  obtain ⟨l, hl⟩ := rows_map (R := ri) (els := els) (fun row hr => int_cell (h3 row hr))
  subst hl
  rw [Ty.cz3] at h1
  rw [Ty.by3] at h2
  exact ⟨l, h1, by simp at h2; omega⟩
theorem gu_cell {g : Nat} {vs : List V} (h : tyV Try.prog (g + 2) 88 vs) : ∃ p : Gu, vs = Gu.row p := by
  have hl := tyV_len h Ty.ag88
  rw [Ty.cz88] at hl
  obtain ⟨n0, e0⟩ := int_cell (tyV_fld h Ty.fd88_0)
  obtain ⟨n1, e1⟩ := bool_cell (tyV_fld h Ty.fd88_1)
  obtain ⟨n2, e2⟩ := int_cell (tyV_fld h Ty.fd88_2)
  obtain ⟨n3, e3⟩ := bool_cell (tyV_fld h Ty.fd88_3)
  rw [Ty.cz3] at e0 e2
  rw [Ty.cz4] at e1 e3
  match vs, hl with
  | [x0, x1, x2, x3], _ =>
    simp at e0 e1 e2 e3
    subst e0 e1 e2 e3
    exact ⟨⟨n0, n1, n2, n3⟩, rfl⟩
theorem gus_of {g : Nat} {x : V} (h : argTy Try.prog (g + 3) 22 x) : ∃ l : List Gu, x = .sl 4 (l.map Gu.row) := by
  obtain ⟨els, h1, h2, h3⟩ := tyV_slw (argTy_one h Ty.ag22) Ty.se22
  obtain ⟨l, hl⟩ := rows_map (R := Gu.row) (els := els) (fun row hr => gu_cell (h3 row hr))
  subst hl
  rw [Ty.cz88] at h1
  exact ⟨l, by simpa using h1⟩
theorem pn_cell {g : Nat} {vs : List V} (h : tyV Try.prog (g + 2) 69 vs) : ∃ p : Pn, vs = Pn.row p := by
  have hl := tyV_len h Ty.ag69
  rw [Ty.cz69] at hl
  obtain ⟨n0, e0⟩ := int_cell (tyV_fld h Ty.fd69_0)
  obtain ⟨n1, e1⟩ := int_cell (tyV_fld h Ty.fd69_1)
  obtain ⟨n2, e2⟩ := int_cell (tyV_fld h Ty.fd69_2)
  rw [Ty.cz3] at e0 e1 e2
  match vs, hl with
  | [x0, x1, x2], _ =>
    simp at e0 e1 e2
    subst e0 e1 e2
    exact ⟨⟨n0, n1, n2⟩, rfl⟩
abbrev DuI : Type := { d : Du // I64 d.a ∧ I64 d.b }
theorem du_cell {g : Nat} {vs : List V} (h : tyV Try.prog (g + 2) 66 vs) : ∃ p : DuI, vs = Du.row p.1 := by
  have hl := tyV_len h Ty.ag66
  rw [Ty.cz66] at hl
  obtain ⟨n0, e0⟩ := int_cell (tyV_fld h Ty.fd66_0)
  obtain ⟨n1, e1, b1⟩ := int_cellb (tyV_fld h Ty.fd66_1)
  obtain ⟨n2, e2, b2⟩ := int_cellb (tyV_fld h Ty.fd66_2)
  rw [Ty.cz3] at e0 e1 e2
  match vs, hl with
  | [x0, x1, x2], _ =>
    simp at e0 e1 e2
    subst e0 e1 e2
    exact ⟨⟨⟨n0, n1, n2⟩, b1, b2⟩, rfl⟩
theorem dus_of {g : Nat} {x : V} (h : argTy Try.prog (g + 3) 34 x) : ∃ l : List Du, x = .sl 3 (l.map Du.row) ∧ ∀ d ∈ l, I64 d.a ∧ I64 d.b := by
  obtain ⟨els, h1, h2, h3⟩ := tyV_slw (argTy_one h Ty.ag34) Ty.se34
  obtain ⟨l, hl⟩ := rows_map (R := fun d : DuI => Du.row d.1) (els := els) (fun row hr => du_cell (h3 row hr))
  subst hl
  rw [Ty.cz66] at h1
  refine ⟨l.map (·.1), ?_, fun d hd => ?_⟩
  · rw [List.map_map]; simpa using h1
  · obtain ⟨e, _, rfl⟩ := List.mem_map.1 hd
    exact e.2
theorem ro_of {g : Nat} {x : V} (h : argTy Try.prog (g + 4) 33 x) : ∃ r : Ro, x = .agg r.row := by
  obtain ⟨vs, e, k⟩ := argTy_agg h Ty.ag33
  subst e
  have hl := tyV_len k Ty.ag33
  rw [Ty.cz33] at hl
  obtain ⟨els, e0, _, h3⟩ := tyV_slw (tyV_fld k Ty.fd33_0) Ty.se31
  obtain ⟨l, hl2⟩ := rows_map (R := Pn.row) (els := els) (fun row hr => pn_cell (h3 row hr))
  subst hl2
  obtain ⟨n1, e1⟩ := int_cell (tyV_fld k Ty.fd33_1)
  obtain ⟨n2, e2⟩ := int_cell (tyV_fld k Ty.fd33_2)
  obtain ⟨n3, e3⟩ := int_cell (tyV_fld k Ty.fd33_3)
  obtain ⟨n4, e4⟩ := int_cell (tyV_fld k Ty.fd33_4)
  obtain ⟨n5, e5⟩ := int_cell (tyV_fld k Ty.fd33_5)
  rw [Ty.cz3] at e1 e2 e3 e4 e5
  rw [Ty.cz31, Ty.cz69] at e0
  match vs, hl with
  | [x0, x1, x2, x3, x4, x5], _ =>
    simp at e0 e1 e2 e3 e4 e5
    subst e0 e1 e2 e3 e4 e5
    exact ⟨⟨l, n1, n2, n3, n4, n5⟩, rfl⟩
theorem se_cell {g : Nat} {vs : List V} (h : tyV Try.prog (g + 2) 115 vs) : ∃ p : Se, vs = Se.row p := by
  have hl := tyV_len h Ty.ag115
  rw [Ty.cz115] at hl
  obtain ⟨n0, e0⟩ := int_cell (tyV_fld h Ty.fd115_0)
  obtain ⟨n1, e1⟩ := bool_cell (tyV_fld h Ty.fd115_1)
  rw [Ty.cz3] at e0
  rw [Ty.cz4] at e1
  match vs, hl with
  | [x0, x1], _ =>
    simp at e0 e1
    subst e0 e1
    exact ⟨⟨n0, n1⟩, rfl⟩
theorem ca_of {g : Nat} {x : V} (h : argTy Try.prog (g + 4) 49 x) : ∃ r : Ca, x = .agg r.row := by
  obtain ⟨vs, e, k⟩ := argTy_agg h Ty.ag49
  subst e
  have hl := tyV_len k Ty.ag49
  rw [Ty.cz49] at hl
  obtain ⟨els, e2, _, h3⟩ := tyV_slw (tyV_fld k Ty.fd49_2) Ty.se47
  obtain ⟨l, hl2⟩ := rows_map (R := Se.row) (els := els) (fun row hr => se_cell (h3 row hr))
  subst hl2
  obtain ⟨n0, e0⟩ := int_cell (tyV_fld k Ty.fd49_0)
  obtain ⟨n1, e1⟩ := int_cell (tyV_fld k Ty.fd49_1)
  obtain ⟨n3, e3⟩ := int_cell (tyV_fld k Ty.fd49_3)
  obtain ⟨n4, e4⟩ := int_cell (tyV_fld k Ty.fd49_4)
  obtain ⟨n5, e5⟩ := int_cell (tyV_fld k Ty.fd49_5)
  rw [Ty.cz3] at e0 e1 e3 e4 e5
  rw [Ty.cz47, Ty.cz115] at e2
  match vs, hl with
  | [x0, x1, x2, x3, x4, x5], _ =>
    simp at e0 e1 e2 e3 e4 e5
    subst e0 e1 e2 e3 e4 e5
    exact ⟨⟨n0, n1, l, n3, n4, n5⟩, rfl⟩
theorem cl_cell {g : Nat} {vs : List V} (h : tyV Try.prog (g + 2) 36 vs) : ∃ p : Cl, vs = Cl.row p ∧ I64 p.a ∧ I64 p.b := by
  have hl := tyV_len h Ty.ag36
  rw [Ty.cz36] at hl
  obtain ⟨n0, e0, b0⟩ := int_cellb (tyV_fld h Ty.fd36_0)
  obtain ⟨n1, e1, b1⟩ := int_cellb (tyV_fld h Ty.fd36_1)
  obtain ⟨n2, e2⟩ := int_cell (tyV_fld h Ty.fd36_2)
  obtain ⟨n3, e3⟩ := bool_cell (tyV_fld h Ty.fd36_3)
  rw [Ty.cz3] at e0 e1 e2
  rw [Ty.cz4] at e3
  match vs, hl with
  | [x0, x1, x2, x3], _ =>
    simp at e0 e1 e2 e3
    subst e0 e1 e2 e3
    exact ⟨⟨n0, n1, n2, n3⟩, rfl, b0, b1⟩
theorem cl_of {g : Nat} {x : V} (h : argTy Try.prog (g + 2) 36 x) : ∃ c : Cl, x = .agg c.row ∧ I64 c.a ∧ I64 c.b := by
  obtain ⟨vs, e, k⟩ := argTy_agg h Ty.ag36
  obtain ⟨c, hc, b⟩ := cl_cell k
  exact ⟨c, by rw [e, hc], b⟩
structure Nd where
  c : Cl
  n : Int
  deriving Inhabited
def Nd.row (d : Nd) : List V := [.int .i64 d.c.a, .int .i64 d.c.b, .int .i64 d.c.craft, .bool d.c.water, .int .i64 d.n]
theorem nd_cell {g : Nat} {vs : List V} (h : tyV Try.prog (g + 3) 38 vs) : ∃ p : Nd, vs = Nd.row p ∧ I64 p.c.a ∧ I64 p.c.b := by
  have hl := tyV_len h Ty.ag38
  rw [Ty.cz38] at hl
  obtain ⟨c, e0, b⟩ := cl_cell (tyV_fld h Ty.fd38_0)
  obtain ⟨n1, e1⟩ := int_cell (tyV_fld h Ty.fd38_1)
  rw [Ty.cz3] at e1
  rw [Ty.cz36] at e0
  match vs, hl with
  | [x0, x1, x2, x3, x4], _ =>
    simp [Cl.row] at e0 e1
    obtain ⟨rfl, rfl, rfl, rfl⟩ := e0
    subst e1
    exact ⟨⟨c, n1⟩, rfl, b⟩
structure Ez where
  d : Nd
  lng : Int
  rst : Int
  tot : Int
  rcn : Int
  deriving Inhabited
def Ez.row (e : Ez) : List V := [.int .i64 e.d.c.a, .int .i64 e.d.c.b, .int .i64 e.d.c.craft, .bool e.d.c.water, .int .i64 e.d.n, .int .i64 e.lng, .int .i64 e.rst, .int .i64 e.tot, .int .i64 e.rcn]
theorem ez_of {g : Nat} {x : V} (h : argTy Try.prog (g + 4) 40 x) : ∃ e : Ez, x = .agg e.row ∧ I64 e.d.c.a ∧ I64 e.d.c.b := by
  obtain ⟨vs, e, k⟩ := argTy_agg h Ty.ag40
  subst e
  have hl := tyV_len k Ty.ag40
  rw [Ty.cz40] at hl
  obtain ⟨c, e0, b⟩ := nd_cell (tyV_fld k Ty.fd40_0)
  obtain ⟨n1, e1⟩ := int_cell (tyV_fld k Ty.fd40_1)
  obtain ⟨n2, e2⟩ := int_cell (tyV_fld k Ty.fd40_2)
  obtain ⟨n3, e3⟩ := int_cell (tyV_fld k Ty.fd40_3)
  obtain ⟨n4, e4⟩ := int_cell (tyV_fld k Ty.fd40_4)
  rw [Ty.cz3] at e1 e2 e3 e4
  rw [Ty.cz38] at e0
  match vs, hl with
  | [x0, x1, x2, x3, x4, x5, x6, x7, x8], _ =>
    simp [Nd.row] at e0 e1 e2 e3 e4
    obtain ⟨rfl, rfl, rfl, rfl, rfl⟩ := e0
    subst e1 e2 e3 e4
    exact ⟨⟨c, n1, n2, n3, n4⟩, rfl, b⟩
theorem sp_cell {g : Nat} {vs : List V} (h : tyV Try.prog (g + 2) 51 vs) : ∃ p : Sp, vs = Sp.row p := by
  have hl := tyV_len h Ty.ag51
  rw [Ty.cz51] at hl
  obtain ⟨n0, e0⟩ := int_cell (tyV_fld h Ty.fd51_0)
  obtain ⟨n1, e1⟩ := int_cell (tyV_fld h Ty.fd51_1)
  rw [Ty.cz3] at e0 e1
  match vs, hl with
  | [x0, x1], _ =>
    simp at e0 e1
    subst e0 e1
    exact ⟨⟨n0, n1⟩, rfl⟩
structure Pl where
  f : Sp
  s : List Int
  deriving Inhabited
def Pl.row (p : Pl) : List V := [.int .i64 p.f.lo, .int .i64 p.f.hi, .sl 1 (p.s.map ri)]
theorem Pl.row_inj (a b : Pl) (h : a.row = b.row) : a = b := by
  obtain ⟨⟨a1, a2⟩, a3⟩ := a; obtain ⟨⟨b1, b2⟩, b3⟩ := b
  simp only [Pl.row, List.cons.injEq, V.sl.injEq, V.int.injEq, true_and, and_true] at h
  rw [h.1, h.2.1, map_ri_inj h.2.2]
theorem pl_cell {g : Nat} {vs : List V} (h : tyV Try.prog (g + 3) 53 vs) : ∃ p : Pl, vs = Pl.row p := by
  have hl := tyV_len h Ty.ag53
  rw [Ty.cz53] at hl
  obtain ⟨f, e0⟩ := sp_cell (tyV_fld h Ty.fd53_0)
  obtain ⟨s, e1, _⟩ := ints_cell (tyV_fld h Ty.fd53_1)
  rw [Ty.cz51] at e0
  rw [Ty.cz24] at e1
  match vs, hl with
  | [x0, x1, x2], _ =>
    simp [Sp.row] at e0 e1
    obtain ⟨rfl, rfl⟩ := e0
    subst e1
    exact ⟨⟨f, s⟩, rfl⟩
theorem pl_of {g : Nat} {x : V} (h : argTy Try.prog (g + 3) 53 x) : ∃ c : Pl, x = .agg c.row := by
  obtain ⟨vs, e, k⟩ := argTy_agg h Ty.ag53
  obtain ⟨c, hc⟩ := pl_cell k
  exact ⟨c, by rw [e, hc]⟩
structure So where
  p : Pl
  x : Int
  y : Int
  deriving Inhabited
def So.row (o : So) : List V := [.int .i64 o.p.f.lo, .int .i64 o.p.f.hi, .sl 1 (o.p.s.map ri), .int .i64 o.x, .int .i64 o.y]
theorem So.row_inj (a b : So) (h : a.row = b.row) : a = b := by
  obtain ⟨⟨⟨a1, a2⟩, a3⟩, a4, a5⟩ := a; obtain ⟨⟨⟨b1, b2⟩, b3⟩, b4, b5⟩ := b
  simp only [So.row, List.cons.injEq, V.sl.injEq, V.int.injEq, true_and, and_true] at h
  rw [h.1, h.2.1, map_ri_inj h.2.2.1, h.2.2.2.1, h.2.2.2.2]
theorem so_of {g : Nat} {x : V} (h : argTy Try.prog (g + 4) 72 x) : ∃ c : So, x = .agg c.row ∧ I64 c.x ∧ I64 c.y := by
  obtain ⟨vs, e, k⟩ := argTy_agg h Ty.ag72
  subst e
  have hl := tyV_len k Ty.ag72
  rw [Ty.cz72] at hl
  obtain ⟨p, e0⟩ := pl_cell (tyV_fld k Ty.fd72_0)
  have h67 := tyV_fld k Ty.fd72_1
  have ha := tyV_arr h67 Ty.ae67
  obtain ⟨a, ea, ba⟩ := int_cellb (ha 0 (by omega))
  obtain ⟨b, eb, bb⟩ := int_cellb (ha 1 (by omega))
  rw [Ty.cz3, Ty.cz67] at ea eb
  rw [Ty.cz53] at e0
  match vs, hl with
  | [x0, x1, x2, x3, x4], _ =>
    simp [Pl.row] at e0 ea eb
    obtain ⟨rfl, rfl, rfl⟩ := e0
    subst ea eb
    exact ⟨⟨p, a, b⟩, rfl, ba, bb⟩
end Go.Sx
end
section
/- Crew: the law of the easier rules. No conditions. -/
set_option linter.unusedSimpArgs false
set_option linter.unusedSectionVars false
set_option maxRecDepth 100000
set_option maxHeartbeats 2000000
namespace Go.Sx
open Go.Proofs
attribute [local irreducible] HLe

theorem ro_ok2 (r : Ro) : r.ok = (decide (r.ppl.length ≤ 12) && r.ppl.all Pn.ok && withinB r.lng 1 2000 && withinB r.rst 0 2000 && withinB r.win 1 2000 && withinB r.rcn 1 2000 && withinB r.tot 1 r.win) := rfl
noncomputable abbrev E15 : Env := { P := Try.prog, fn := tbl [(40, .pure withinS)], own := [], key := 1500, nt := 69 }
theorem b15 : PureBody E15 [] Try.f15 rosS := by
  refine pb ?_
  rintro r hl
  have hl : r.ppl.length ≤ 1000000 := hl
  have hr := ro_ok2 r
  generalize h2 : withinB r.lng 1 2000 = b2 at hr
  generalize h3 : withinB r.rst 0 2000 = b3 at hr
  generalize h4 : withinB r.win 1 2000 = b4 at hr
  generalize h5 : withinB r.rcn 1 2000 = b5 at hr
  generalize h6 : withinB r.tot 1 r.win = b6 at hr
  have e0 : decide ((12 : Int) < r.ppl.length) = !decide (r.ppl.length ≤ 12) := by
    by_cases h : r.ppl.length ≤ 12
    · rw [decide_eq_true h, decide_eq_false (by omega)]; rfl
    · rw [decide_eq_false h, decide_eq_true (by omega)]; rfl
  by_cases hall : decide (r.ppl.length ≤ 12) && b2 && b3 && b4 && b5 && b6
  case neg =>
    have hz : r.ok = false := by
      rw [hr]; cases h : decide (r.ppl.length ≤ 12) <;> rw [h] at hall <;> cases b2 <;> cases b3 <;> cases b4 <;> cases b5 <;> cases b6 <;> simp_all
    have hz2 : ¬ (((((r.ppl.length ≤ 12 ∧ b2 = true) ∧ b3 = true) ∧ b4 = true) ∧ b5 = true) ∧ b6 = true) := by
      simpa using hall
    clear hall
    simp -dsimp [Try.f15, E15, Ro.row, pplV]
    repeat' (first | omega | (simp -dsimp [E15, ri, cellp, ints, Ro.row, pplV, h2, h3, h4, h5, h6, hz]) | (refine Also.intro ?_ fun _ => ?_) | (refine Hold.intro fun _ => ?_) | (refine And.intro ?_ ?_))
    rename_i h
    exact (hz2 ⟨⟨⟨⟨⟨by omega, h.1.1.1.1.2⟩, h.1.1.1.2⟩, h.1.1.2⟩, h.1.2⟩, h.2⟩).elim
  simp only [Bool.and_eq_true, decide_eq_true_eq] at hall
  obtain ⟨⟨⟨⟨⟨h1, rfl⟩, rfl⟩, rfl⟩, rfl⟩, rfl⟩ := hall
  have h1' : ((12 : Int) < r.ppl.length) = False := eq_false (by omega)
  rw [decide_eq_true h1] at hr
  simp only [Bool.true_and, Bool.and_true] at hr
  clear e0
  simp -dsimp [Try.f15, E15, Ro.row, pplV]
  repeat' (first | omega | (simp -dsimp [E15, ri, cellp, ints, Ro.row, pplV, h2, h3, h4, h5, h6, h1']) | (refine Also.intro ?_ fun _ => ?_) | (refine Hold.intro fun _ => ?_) | (refine And.intro ?_ ?_))
  refine awp_loop [41, 42, 43, 44, 45, 48, 49, 50, 51, 52, 4, 53, 54, 55, 56, 57, 58, 59, 60, 61, 62, 63, 64, 65, 66, 67, 68, 2, 46, 47, 3] (fun k : { k : Nat // k ≤ r.ppl.length ∧ ∀ j (h : j < r.ppl.length), j < k → r.ppl[j].ok = true } => [(3, (true, .int .i64 k.1))]) (fun k => hps [(1504, { base := k.1, blks := [] }), (1501, { base := 0, blks := [{ z := 6, els := [r.row], ty := 33 }] })] noH) (fun k => r.ppl.length - k.1) ⟨0, by omega, fun _ _ h => by omega⟩ ?_ ?_ ?_
  · simp [okAll, okv]
  · exact (by (try simp -dsimp only [hpush_noH, hpush_hps, hps_over]); refine hle_hps ?_; simp -dsimp [allK, Ro.row, pplV]; repeat' (first | (refine And.intro ?_ ?_) | (refine sLe.same ?_ ?_ <;> (simp; done)) | (refine sLe.clear ?_ ?_ <;> (first | (simp; done) | (simp; omega))) | (refine sLe.drop 1 ?_ ?_ ?_ <;> (simp; done))))
  rintro ⟨k, hk, hal⟩
  dsimp only
  by_cases hk1 : k < r.ppl.length
  · have hki : (k : Int) < r.ppl.length := by omega
    have wk : IntKind.wrap .i64 ((k : Int) + 1) = (k + 1 : Nat) := wrap_id (by omega) (by omega)
    obtain ⟨p, hp⟩ : ∃ p, r.ppl[k]? = some p := ⟨_, List.getElem?_eq_getElem hk1⟩
    have hp' : r.ppl[k] = p := (List.getElem?_eq_some_iff.1 hp).2
    have hpo : p.ok = (withinB p.rat 0 255 && withinB p.rank 0 3 && withinB p.dive 0 2000) := rfl
    have hbad : p.ok = false → r.ok = false := fun h => by
      rw [hr, List.all_eq_false]; exact ⟨p, by rw [← hp']; exact List.getElem_mem hk1, by simp [h]⟩
    generalize g1 : withinB p.rat 0 255 = c1 at hpo
    generalize g2 : withinB p.rank 0 3 = c2 at hpo
    generalize g3 : withinB p.dive 0 2000 = c3 at hpo
    cases c1
    · have hz := hbad (by rw [hpo]; rfl)
      simp -dsimp [hki]
      repeat' (first | omega | (simp -dsimp [E15, ri, cellp, ints, Ro.row, pplV, Pn.row, hki, hk1, hp, hp', g1, hz]) | (refine Also.intro ?_ fun _ => ?_) | (refine Hold.intro fun _ => ?_) | (refine And.intro ?_ ?_))
    cases c2
    · have hz := hbad (by rw [hpo]; rfl)
      simp -dsimp [hki]
      repeat' (first | omega | (simp -dsimp [E15, ri, cellp, ints, Ro.row, pplV, Pn.row, hki, hk1, hp, hp', g1, g2, hz]) | (refine Also.intro ?_ fun _ => ?_) | (refine Hold.intro fun _ => ?_) | (refine And.intro ?_ ?_))
    cases c3
    · have hz := hbad (by rw [hpo]; rfl)
      simp -dsimp [hki]
      repeat' (first | omega | (simp -dsimp [E15, ri, cellp, ints, Ro.row, pplV, Pn.row, hki, hk1, hp, hp', g1, g2, g3, hz]) | (refine Also.intro ?_ fun _ => ?_) | (refine Hold.intro fun _ => ?_) | (refine And.intro ?_ ?_))
    simp -dsimp [hki]
    repeat' (first | omega | (simp -dsimp [E15, ri, cellp, ints, Ro.row, pplV, Pn.row, hki, hk1, hp, hp', g1, g2, g3, wk]) | (refine Also.intro ?_ fun _ => ?_) | (refine Hold.intro fun _ => ?_) | (refine And.intro ?_ ?_))
    refine ⟨k + 1, tle_chain rfl ?_, ?_, ⟨by omega, fun j h hj => ?_⟩, by omega⟩
    · simp [okAll, okv]
    · exact (by (try simp -dsimp only [hpush_noH, hpush_hps, hps_over]); refine hle_hps ?_; simp -dsimp [allK, Ro.row, pplV]; repeat' (first | (refine And.intro ?_ ?_) | (refine sLe.same ?_ ?_ <;> (simp; done)) | (refine sLe.clear ?_ ?_ <;> (first | (simp; done) | (simp; omega))) | (refine sLe.drop 1 ?_ ?_ ?_ <;> (simp; done))))
    · by_cases hjk : j = k
      · subst hjk; rw [hp', hpo]; rfl
      · exact hal j h (by omega)
  · have hkn : ¬ (k : Int) < r.ppl.length := by omega
    have hz : r.ok = true := by
      rw [hr, List.all_eq_true]
      intro p hp
      obtain ⟨j, hj, rfl⟩ := List.getElem_of_mem hp
      exact hal j hj (by omega)
    simp -dsimp [hkn]
    repeat' (first | omega | (simp -dsimp [E15, ri, cellp, ints, Ro.row, pplV, hkn, hz]) | (refine Also.intro ?_ fun _ => ?_) | (refine Hold.intro fun _ => ?_) | (refine And.intro ?_ ?_))
theorem ok15 : FnOK Try.prog 15 (.pure rosS) := pure_fn (E := E15) rfl (.cons ok40 .nil) (ok := []) (fn := Try.f15) (by kernel_rfl) (by kernel_rfl) (by kernel_rfl) (by kernel_rfl) rfl (fun _ _ => by simp) b15
/-! the law -/
@[simp] def ezE (d : Ro × List Du × Ez) : List V := [.agg d.1.row, .sl 3 (d.2.1.map Du.row), .agg d.2.2.row]
theorem Ez.row_inj (a b : Ez) (h : a.row = b.row) : a = b := by
  obtain ⟨⟨⟨a1, a2, a3, a4⟩, a5⟩, a6, a7, a8, a9⟩ := a; obtain ⟨⟨⟨b1, b2, b3, b4⟩, b5⟩, b6, b7, b8, b9⟩ := b
  simp [Ez.row] at h
  simp [h]
theorem far_dec (r : Ro) (l : List Du) : decC chE [.agg [.sl 3 (r.ppl.map Pn.row), .int .i64 r.lng, .int .i64 r.rst, .int .i64 r.win, .int .i64 r.tot, .int .i64 r.rcn], .sl 3 (l.map Du.row)] = (r, l) := chE_dec r l
structure EzP (d : Ro × List Du × Ez) : Prop where
  l : ∀ x ∈ d.2.1, I64 x.a ∧ I64 x.b
  a : I64 d.2.2.d.c.a
  b : I64 d.2.2.d.c.b
noncomputable abbrev trueEasS : PSpec := mkP ezE EzP fun _ => .bool true
/-- In how far a number is among others. -/
def anyTo (l : List Int) (x : Int) (k : Nat) : Bool := (l.take k).any fun y => decide (y = x)
theorem anyTo_succ {l : List Int} {k : Nat} {y : Int} (x : Int) (h : l[k]? = some y) : anyTo l x (k + 1) = (anyTo l x k || decide (y = x)) := by
  unfold anyTo
  rw [List.take_add_one, h]; simp [List.any_append]
theorem anyTo_end {l : List Int} {x : Int} (h : x ∈ l) : anyTo l x l.length = true := by
  unfold anyTo
  rw [List.take_length, List.any_eq_true]; exact ⟨x, h, by simp⟩
theorem whyO_len (r : Ro) (l : List Du) (n : Int) (c : Cl) : (whyO r l n c).1.length ≤ 10 := by
  unfold whyO
  split
  · unfold whyW brkW
    simp only [List.length_append]
    repeat' split
    all_goals simp
  · simp
theorem whyO_zero {r : Ro} {l : List Du} {n : Int} {c : Cl} (h : (whyO r l n c).2 = 0) : chk2W srtD r l (withinB n 0 (r.ppl.length - 1) && callW c) = 0 ∧ (whyO r l n c).1 = whyW srtD r l n c := by
  unfold whyO at h ⊢
  split at h
  · rename_i h1
    rw [if_pos h1]; exact ⟨h1, rfl⟩
  · rename_i h1; exact absurd h h1
theorem whyO_easier {r r' : Ro} (he : Eas r r') (hf : r'.ok = true) (hr : r.ok = true) {l : List Du} (hl : ∀ d ∈ l, -9223372036854775808 ≤ d.b) {n : Int} {c : Cl} (hc : -9223372036854775808 ≤ c.b) (h : (whyO r l n c).2 = 0) : (whyO r' l n c).2 = 0 ∧ ∀ k ∈ (whyO r' l n c).1, k ∈ (whyO r l n c).1 := by
  obtain ⟨h1, h2⟩ := whyO_zero h
  obtain ⟨z1, z2⟩ := chk2_zero h1
  have f1 := Ro.ok_iff.1 hr
  have f2 := Ro.ok_iff.1 hf
  have z3 := chkEW_easier srtD he f2.rst.1 hf hl z1
  have hb : (withinB n 0 (r'.ppl.length - 1) && callW c) = true := by rw [he.ppl]; exact z2
  have h3 : chk2W srtD r' l (withinB n 0 (r'.ppl.length - 1) && callW c) = 0 := by unfold chk2W; rw [if_pos z3, if_pos hb]
  have h4 : whyO r' l n c = (whyW srtD r' l n c, 0) := by unfold whyO; rw [if_pos h3]
  have hcw : callW c = true := by simp only [Bool.and_eq_true] at z2; exact z2.2
  have hcb : c.b ≤ 2000 := by
    simp only [callW, Bool.and_eq_true] at hcw; exact strW_low hcw.1
  rw [h4, h2]
  exact ⟨rfl, fun k hk => whyW_mono srtD he f2.rst.1 f1.rst.2 (chkEW_low srtD hl z1) ⟨hc, hcb⟩ hk⟩
noncomputable abbrev E4 : Env := { P := Try.prog, fn := tbl [(14, .pure farS), (15, .pure rosS), (9, .pure worksS), (17, .pure cpyS), (18, .pure dlS), (16, .pure WhyS)], own := [], key := 400, nt := 139 }
theorem b4 : PureBody E4 [] Try.f4 trueEasS := by
  refine pb ?_
  rintro ⟨r, l, e⟩ ⟨hl, ha, hb⟩
  simp only at hl ha hb
  by_cases hfar : 20 < r.ppl.length ∨ 80 < l.length
  · have hfar' : (decide (20 < r.ppl.length) || decide (80 < l.length)) = true := by
      rcases hfar with h | h <;> simp [h]
    simp -dsimp [Try.f4, E4, Ro.row, pplV, Ez.row]
    repeat' (first | omega | (simp -dsimp [E4, ri, cellp, ints, Ro.row, pplV, Ez.row, far_dec, hfar']) | (refine Also.intro ?_ fun _ => ?_) | (refine Hold.intro fun _ => ?_) | (refine And.intro ?_ ?_))
  have hp20 : r.ppl.length ≤ 20 := by omega
  have hl80 : l.length ≤ 80 := by omega
  have hp6 : r.ppl.length ≤ 1000000 := by omega
  have hl6 : l.length ≤ 1000000 := by omega
  have hfar' : (decide (20 < r.ppl.length) || decide (80 < l.length)) = false := by
    rw [decide_eq_false (by omega), decide_eq_false (by omega)]; rfl
  clear hfar
  cases hok : r.ok
  · simp -dsimp [Try.f4, E4, Ro.row, pplV, Ez.row]
    repeat' (first | omega | (simp -dsimp [E4, ri, cellp, ints, Ro.row, pplV, Ez.row, far_dec, roE_dec, hfar', hok, hp6, hl6]) | (refine Also.intro ?_ fun _ => ?_) | (refine Hold.intro fun _ => ?_) | (refine And.intro ?_ ?_))
  by_cases hs : ((0 ≤ e.lng ∧ 0 ≤ e.rst) ∧ 0 ≤ e.tot) ∧ 0 ≤ e.rcn
  case neg =>
    simp -dsimp [Try.f4, E4, Ro.row, pplV, Ez.row]
    repeat' (first | omega | (simp -dsimp [E4, ri, cellp, ints, Ro.row, pplV, Ez.row, far_dec, roE_dec, hfar', hok, hp6, hl6]) | (refine Also.intro ?_ fun _ => ?_) | (refine Hold.intro fun _ => ?_) | (refine And.intro ?_ ?_))
    all_goals exact absurd (by assumption) hs
  obtain ⟨⟨⟨s1, s2⟩, s3⟩, s4⟩ := hs
  have s1' : (e.lng < 0) = False := eq_false (by omega)
  have s2' : (e.rst < 0) = False := eq_false (by omega)
  have s3' : (e.tot < 0) = False := eq_false (by omega)
  have s4' : (e.rcn < 0) = False := eq_false (by omega)
  have hWP : ∀ r : Ro, r.ppl.length ≤ 1000000 → WyP (r, l, e.d.n, e.d.c) := fun r h => ⟨h, hl6⟩
  by_cases hw0 : (whyO r l e.d.n e.d.c).2 = 0
  case neg =>
    have hw0' : ((whyO r l e.d.n e.d.c).2 = 0) = False := eq_false hw0
    simp -dsimp [Try.f4, E4, Ro.row, pplV, Ez.row]
    repeat' (first | omega | (simp -dsimp [E4, ri, cellp, ints, Ro.row, pplV, Ez.row, far_dec, roE_dec, dlE_dec, whE_dec, hfar', hok, hp6, hl6, s1', s2', s3', s4', hWP, hw0']) | (refine Also.intro ?_ fun _ => ?_) | (refine Hold.intro fun _ => ?_) | (refine And.intro ?_ ?_))
  have hf := Ro.ok_iff.1 hok
  obtain ⟨hfn, hfp, hfl, hfr, hfw, hfc, hft⟩ := hf
  obtain ⟨m1, hm1⟩ : ∃ m1, (if (2000 : Int) < e.lng then 2000 else e.lng) = m1 := ⟨_, rfl⟩
  obtain ⟨m2, hm2⟩ : ∃ m2, (if (2000 : Int) < e.rst then 2000 else e.rst) = m2 := ⟨_, rfl⟩
  obtain ⟨m3, hm3⟩ : ∃ m3, (if (2000 : Int) < e.tot then 2000 else e.tot) = m3 := ⟨_, rfl⟩
  obtain ⟨m4, hm4⟩ : ∃ m4, (if (2000 : Int) < e.rcn then 2000 else e.rcn) = m4 := ⟨_, rfl⟩
  have b1 : 0 ≤ m1 ∧ m1 ≤ 2000 := by rw [← hm1]; split <;> omega
  have b2 : 0 ≤ m2 ∧ m2 ≤ 2000 := by rw [← hm2]; split <;> omega
  have b3 : 0 ≤ m3 ∧ m3 ≤ 2000 := by rw [← hm3]; split <;> omega
  have b4 : 0 ≤ m4 ∧ m4 ≤ 2000 := by rw [← hm4]; split <;> omega
  have w1 : IntKind.wrap .i64 (r.lng + m1) = r.lng + m1 := wrap_id (by omega) (by omega)
  have w2 : IntKind.wrap .i64 (r.rst - m2) = r.rst - m2 := wrap_id (by omega) (by omega)
  have w3 : IntKind.wrap .i64 (r.tot + m3) = r.tot + m3 := wrap_id (by omega) (by omega)
  have w4 : IntKind.wrap .i64 (r.rcn + m4) = r.rcn + m4 := wrap_id (by omega) (by omega)
  obtain ⟨L, hL⟩ : ∃ L, (if r.lng + m1 < 2000 then r.lng + m1 else 2000) = L := ⟨_, rfl⟩
  obtain ⟨R, hR⟩ : ∃ R, (if m2 < r.rst then r.rst - m2 else 0) = R := ⟨_, rfl⟩
  obtain ⟨T, hT⟩ : ∃ T, (if r.tot + m3 < r.win then r.tot + m3 else r.win) = T := ⟨_, rfl⟩
  obtain ⟨C, hC⟩ : ∃ C, (if r.rcn + m4 < 2000 then r.rcn + m4 else 2000) = C := ⟨_, rfl⟩
  have c1 : r.lng ≤ L ∧ L ≤ 2000 := by rw [← hL]; split <;> omega
  have c2 : 0 ≤ R ∧ R ≤ r.rst := by rw [← hR]; split <;> omega
  have c3 : r.tot ≤ T ∧ T ≤ r.win := by rw [← hT]; split <;> omega
  have c4 : r.rcn ≤ C ∧ C ≤ 2000 := by rw [← hC]; split <;> omega
  have hE : Eas r ⟨r.ppl, L, R, r.win, T, C⟩ := ⟨rfl, rfl, c1.1, c2.2, c3.1, c4.1⟩
  have hok' : Ro.ok ⟨r.ppl, L, R, r.win, T, C⟩ = true := Ro.ok_iff.2 ⟨hfn, hfp, ⟨by simp only; omega, c1.2⟩, ⟨c2.1, by simp only; omega⟩, hfw, ⟨by simp only; omega, c4.2⟩, ⟨by simp only; omega, c3.2⟩⟩
  obtain ⟨hz2, hsub⟩ := whyO_easier hE hok' hok (fun d hd => (hl d hd).2.1) hb.1 hw0
  have hdec2 := whE_dec ⟨r.ppl, L, R, r.win, T, C⟩ l e.d.n e.d.c
  have hWP2 := hWP ⟨r.ppl, L, R, r.win, T, C⟩ hp6
  have hwl1 := whyO_len r l e.d.n e.d.c
  have hwl2 := whyO_len ⟨r.ppl, L, R, r.win, T, C⟩ l e.d.n e.d.c
  have hWP1 := hWP r hp6
  clear hWP hE hok' hfp
  simp only at hdec2
  generalize hW1 : (whyO r l e.d.n e.d.c).1 = W1 at *
  generalize hW2 : (whyO ⟨r.ppl, L, R, r.win, T, C⟩ l e.d.n e.d.c).1 = W2 at *
  simp -dsimp [Try.f4, E4, Ro.row, pplV, Ez.row]
  repeat' (first | omega | (simp -dsimp [E4, ri, cellp, ints, Ro.row, pplV, Ez.row, far_dec, roE_dec, dlE_dec, whE_dec, hfar', hok, hp6, hl6, s1', s2', s3', s4', hWP1, hw0, hW1, hm1, hm2, hm3, hm4, w1, w2, w3, w4, hL, hR, hT, hC, hdec2, hWP2, hz2, hW2]) | (refine Also.intro ?_ fun _ => ?_) | (refine Hold.intro fun _ => ?_) | (refine And.intro ?_ ?_))
  refine awp_loop [112, 113, 114, 115, 13, 14, 118, 119, 120, 121, 124, 125, 126, 127, 128, 129, 130, 131, 132, 133, 134, 135, 122, 123, 136, 137, 6, 116, 117, 12] (fun k : { k : Nat // k ≤ W2.length } => [(12, (true, .int .i64 k.1))]) (fun _ => hps [(409, { base := 0, blks := [{ z := 6, els := [[.sl 3 (r.ppl.map Pn.row), .int .i64 L, .int .i64 R, .int .i64 r.win, .int .i64 T, .int .i64 C]], ty := 33 }] }), (405, { base := 0, blks := [{ z := 9, els := [e.row], ty := 40 }] }), (403, { base := 0, blks := [{ z := 6, els := [r.row], ty := 33 }] })] noH) (fun k => W2.length - k.1) ⟨0, by omega⟩ ?_ ?_ ?_
  · simp [okAll, okv]
  · exact (by (try simp -dsimp only [hpush_noH, hpush_hps, hps_over]); refine hle_hps ?_; simp -dsimp [allK, Ro.row, pplV, Ez.row]; repeat' (first | (refine And.intro ?_ ?_) | (refine sLe.same ?_ ?_ <;> (simp; done)) | (refine sLe.clear ?_ ?_ <;> (first | (simp; done) | (simp; omega))) | (refine sLe.drop 1 ?_ ?_ ?_ <;> (simp; done))))
  rintro ⟨k, hk⟩
  dsimp only
  by_cases hk1 : k < W2.length
  case neg =>
    have hkn : ¬ (k : Int) < W2.length := by omega
    simp -dsimp [hkn]
    repeat' (first | omega | (simp -dsimp [E4, ri, cellp, ints, hkn]) | (refine Also.intro ?_ fun _ => ?_) | (refine Hold.intro fun _ => ?_) | (refine And.intro ?_ ?_))
  have hki : (k : Int) < W2.length := by omega
  have wk : IntKind.wrap .i64 ((k : Int) + 1) = (k + 1 : Nat) := wrap_id (by omega) (by omega)
  obtain ⟨x, hx⟩ : ∃ x, W2[k]? = some x := ⟨_, List.getElem?_eq_getElem hk1⟩
  have hx' : W2[k] = x := (List.getElem?_eq_some_iff.1 hx).2
  have hend := anyTo_end (hsub x (by rw [← hx']; exact List.getElem_mem hk1))
  simp -dsimp [hki]
  repeat' (first | omega | (simp -dsimp [E4, ri, cellp, ints, hki, hk1, hx, hx']) | (refine Also.intro ?_ fun _ => ?_) | (refine Hold.intro fun _ => ?_) | (refine And.intro ?_ ?_))
  refine awp_loop [118, 119, 120, 121, 124, 125, 126, 127, 128, 129, 130, 131, 132, 133, 134, 135, 13, 122, 123, 14] (fun j : { j : Nat // j ≤ W1.length } => [(14, (true, .int .i64 j.1)), (13, (true, .bool (anyTo W1 x j.1)))]) (fun _ => hps [(409, { base := 0, blks := [{ z := 6, els := [[.sl 3 (r.ppl.map Pn.row), .int .i64 L, .int .i64 R, .int .i64 r.win, .int .i64 T, .int .i64 C]], ty := 33 }] }), (405, { base := 0, blks := [{ z := 9, els := [e.row], ty := 40 }] }), (403, { base := 0, blks := [{ z := 6, els := [r.row], ty := 33 }] })] noH) (fun j => W1.length - j.1) ⟨0, by omega⟩ ?_ (HLe.refl _) ?_
  · simp [okAll, okv, anyTo]
  rintro ⟨j, hj⟩
  dsimp only
  by_cases hj1 : j < W1.length
  · have hji : (j : Int) < W1.length := by omega
    have wj : IntKind.wrap .i64 ((j : Int) + 1) = (j + 1 : Nat) := wrap_id (by omega) (by omega)
    obtain ⟨y, hy⟩ : ∃ y, W1[j]? = some y := ⟨_, List.getElem?_eq_getElem hj1⟩
    have hy' : W1[j] = y := (List.getElem?_eq_some_iff.1 hy).2
    have hS := anyTo_succ x hy
    cases hb1 : anyTo W1 x j <;> rw [hb1] at hS
    · by_cases hyx : y = x
      · subst hyx
        simp -dsimp [hji]
        repeat' (first | omega | (simp -dsimp [E4, ri, cellp, ints, hji, hj1, hki, hk1, hx, hx', hy, hy', wj]) | (refine Also.intro ?_ fun _ => ?_) | (refine Hold.intro fun _ => ?_) | (refine And.intro ?_ ?_))
        refine ⟨j + 1, tle_chain rfl ?_, HLe.refl _, by omega, by omega⟩
        simp [okAll, okv, hS]
      · have hyx' : (y = x) = False := eq_false hyx
        simp -dsimp [hji]
        repeat' (first | omega | (simp -dsimp [E4, ri, cellp, ints, hji, hj1, hki, hk1, hx, hx', hy, hy', hyx', wj]) | (refine Also.intro ?_ fun _ => ?_) | (refine Hold.intro fun _ => ?_) | (refine And.intro ?_ ?_))
        refine ⟨j + 1, tle_chain rfl ?_, HLe.refl _, by omega, by omega⟩
        simp [okAll, okv, hS, hyx]
    · simp -dsimp [hji]
      repeat' (first | omega | (simp -dsimp [E4, ri, cellp, ints, hji, hj1, hki, hk1, hx, hx', hy, hy', wj]) | (refine Also.intro ?_ fun _ => ?_) | (refine Hold.intro fun _ => ?_) | (refine And.intro ?_ ?_))
      refine ⟨j + 1, tle_chain rfl ?_, HLe.refl _, by omega, by omega⟩
      simp [okAll, okv, hS]
  · have hjn : ¬ (j : Int) < W1.length := by omega
    have hje : j = W1.length := by omega
    subst hje
    rw [hend]
    simp -dsimp [hjn]
    repeat' (first | omega | (simp -dsimp [E4, ri, cellp, ints, hjn, wk]) | (refine Also.intro ?_ fun _ => ?_) | (refine Hold.intro fun _ => ?_) | (refine And.intro ?_ ?_))
    refine ⟨k + 1, tle_kept (kept_upds rfl (kept_forget rfl (kept_upds rfl kept_base))) ?_, HLe.refl _, by omega, by omega⟩
    simp [okAll, okv]
theorem ok4 : FnOK Try.prog 4 (.pure trueEasS) := pure_fn (E := E4) rfl (.cons ok14 (.cons ok15 (.cons ok9 (.cons ok17 (.cons ok18 (.cons ok16 .nil)))))) (ok := []) (fn := Try.f4) (by kernel_rfl) (by kernel_rfl) (by kernel_rfl) (by kernel_rfl) rfl (fun _ _ => by simp) b4
end Go.Sx
end
