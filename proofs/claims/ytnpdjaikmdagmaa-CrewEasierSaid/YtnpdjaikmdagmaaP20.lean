/- A part of a proof; no conditions. -/
import Derived.Test.YtnpdjaikmdagmaaP19
import Derived.Test.YtnpdjaikmdagmaaP10
import Derived.Test.YtnpdjaikmdagmaaP16
import Derived.Test.YtnpdjaikmdagmaaP12
set_option linter.unusedSimpArgs false
set_option linter.unusedVariables false
set_option linter.unusedSectionVars false
section
/- Crew: who may not fly over water: the program's, the reference's. No conditions. -/
set_option linter.unusedSimpArgs false
set_option linter.unusedSectionVars false
set_option maxRecDepth 100000
set_option maxHeartbeats 2000000
namespace Go.Sx
open Go.Proofs
attribute [local irreducible] HLe

noncomputable abbrev E40 : Env := { P := Try.prog, fn := tbl [], own := [], key := 4000, nt := 15 }
theorem b40 : PureBody E40 [] Try.f40 withinS := by
  refine pb ?_
  rintro ⟨n, a, b⟩ _
  simp -dsimp [Try.f40, E40, withinB]
  repeat' (first | omega | (simp -dsimp [E40, ri, cellp, ints, *]) | (refine Also.intro ?_ fun _ => ?_) | (refine Hold.intro fun _ => ?_) | (refine And.intro ?_ ?_))
theorem ok40 : FnOK Try.prog 40 (.pure withinS) := pure_fn (E := E40) rfl LOK.nil (ok := []) (fn := Try.f40) (by kernel_rfl) (by kernel_rfl) (by kernel_rfl) (by kernel_rfl) rfl (fun _ _ => by simp) b40
theorem gue_none {l : List Gu} (h : ∀ j (h : j < l.length), guN l[j] = false) : l.any guN = false := by
  rw [List.any_eq_false]
  intro g hg
  obtain ⟨j, hj, rfl⟩ := List.getElem_of_mem hg
  simp [h j hj]
theorem gue_bad {l : List Gu} {k : Nat} (hk : k < l.length) (h : guN l[k] = true) : l.any guN = true := by
  rw [List.any_eq_true]; exact ⟨_, List.getElem_mem hk, h⟩
noncomputable abbrev E39 : Env := { P := Try.prog, fn := tbl [(40, .pure withinS)], own := [], key := 3900, nt := 32 }
theorem b39 : PureBody E39 [] Try.f39 grS := by
  refine pb ?_
  rintro ⟨l, n⟩ hl
  have hl : l.length ≤ 1000000 := hl
  have hg := gue_of l n
  by_cases hn : n < l.length
  · rw [if_pos hn] at hg
    simp -dsimp [Try.f39, E39]
    repeat' (first | omega | (simp -dsimp [E39, ri, cellp, ints, hl, hn, hg]) | (refine Also.intro ?_ fun _ => ?_) | (refine Hold.intro fun _ => ?_) | (refine And.intro ?_ ?_))
  rw [if_neg hn] at hg
  have hn' : (n < (l.length : Int)) = False := eq_false hn
  simp -dsimp [Try.f39, E39]
  repeat' (first | omega | (simp -dsimp [E39, ri, cellp, ints, hl, hn']) | (refine Also.intro ?_ fun _ => ?_) | (refine Hold.intro fun _ => ?_) | (refine And.intro ?_ ?_))
  refine awp_loop [10, 11, 12, 13, 16, 17, 18, 19, 20, 21, 22, 23, 24, 25, 26, 27, 28, 29, 30, 31, 4, 14, 15, 5] (fun k : { k : Nat // k ≤ l.length ∧ ∀ j (h : j < l.length), j < k → guN l[j] = false } => [(5, (true, .int .i64 k.1))]) (fun _ => noH) (fun k => l.length - k.1) ⟨0, by omega, fun _ _ h => by omega⟩ ?_ (HLe.refl _) ?_
  · simp [okAll, okv]
  rintro ⟨k, hk, hall⟩
  dsimp only
  by_cases hk1 : k < l.length
  · have hki : (k : Int) < l.length := by omega
    have wk : IntKind.wrap .i64 ((k : Int) + 1) = (k + 1 : Nat) := wrap_id (by omega) (by omega)
    obtain ⟨g, hu⟩ : ∃ g, l[k]? = some g := ⟨_, List.getElem?_eq_getElem hk1⟩
    have hu' : l[k] = g := (List.getElem?_eq_some_iff.1 hu).2
    have hD : guN g = (!withinB g.w 1 500 || !withinB g.dive 0 2000) := rfl
    cases h1 : withinB g.w 1 500 <;> rw [h1] at hD
    · have hz := gue_bad hk1 (by rw [hu', hD]; rfl)
      rw [hz, if_pos rfl] at hg
      simp -dsimp [hki]
      repeat' (first | omega | (simp -dsimp [E39, ri, cellp, ints, hki, hk1, hu, hu', h1, hg, Gu.row]) | (refine Also.intro ?_ fun _ => ?_) | (refine Hold.intro fun _ => ?_) | (refine And.intro ?_ ?_))
    · cases h2 : withinB g.dive 0 2000 <;> rw [h2] at hD
      · have hz := gue_bad hk1 (by rw [hu', hD]; rfl)
        rw [hz, if_pos rfl] at hg
        simp -dsimp [hki]
        repeat' (first | omega | (simp -dsimp [E39, ri, cellp, ints, hki, hk1, hu, hu', h1, h2, hg, Gu.row]) | (refine Also.intro ?_ fun _ => ?_) | (refine Hold.intro fun _ => ?_) | (refine And.intro ?_ ?_))
      · simp -dsimp [hki]
        repeat' (first | omega | (simp -dsimp [E39, ri, cellp, ints, hki, hk1, hu, hu', h1, h2, wk, Gu.row]) | (refine Also.intro ?_ fun _ => ?_) | (refine Hold.intro fun _ => ?_) | (refine And.intro ?_ ?_))
        refine ⟨k + 1, tle_chain rfl ?_, HLe.refl _, ⟨by omega, fun j h hj => ?_⟩, by omega⟩
        · simp [okAll, okv]
        · by_cases hjk : j = k
          · subst hjk; rw [hu', hD]; rfl
          · exact hall j h (by omega)
  · have hkn : ¬ (k : Int) < l.length := by omega
    rw [gue_none fun j h => hall j h (by omega), if_neg (by decide)] at hg
    simp -dsimp [hkn]
    repeat' (first | omega | (simp -dsimp [E39, ri, cellp, ints, hkn, hg]) | (refine Also.intro ?_ fun _ => ?_) | (refine Hold.intro fun _ => ?_) | (refine And.intro ?_ ?_))
theorem ok39 : FnOK Try.prog 39 (.pure grS) := pure_fn (E := E39) rfl (.cons ok40 .nil) (ok := []) (fn := Try.f39) (by kernel_rfl) (by kernel_rfl) (by kernel_rfl) (by kernel_rfl) rfl (fun _ _ => by simp) b39

/-! over water -/
def wetB (g : Gu) (t : Int) : Bool := !g.suit || decide (g.dive < t)
def wetTo (l : List Gu) (t : Int) : Nat → List Int
  | 0 => []
  | k + 1 => if wetB (guAt l k) t = true then wetTo l t k ++ [(k : Int)] else wetTo l t k
theorem wetTo_len (l : List Gu) (t : Int) : ∀ k, (wetTo l t k).length ≤ k
  | 0 => by simp [wetTo]
  | k + 1 => by
    have ih := wetTo_len l t k
    rw [wetTo]
    split
    · simp; omega
    · omega
def wetO (l : List Gu) (t : Int) : List Int × Int := if gueE l 8 = 0 then (if withinB t 0 2000 = true then (wetTo l t l.length, 0) else ([], 1)) else ([], gueE l 8)
noncomputable abbrev wetS : PSpec := mkP grE (fun d => d.1.length ≤ 1000000) fun d => .tup [ints (wetO d.1 d.2).1, .int .i64 (wetO d.1 d.2).2]
noncomputable abbrev E10 : Env := { P := Try.prog, fn := tbl [(37, .pure grS), (38, .pure timeS)], own := [], key := 1000, nt := 39 }
theorem b10 : PureBody E10 [] Try.f10 wetS := by
  refine pb ?_
  rintro ⟨l, t⟩ hl
  have hl : l.length ≤ 1000000 := hl
  have hK : wetO l t = if gueE l 8 = 0 then (if withinB t 0 2000 = true then (wetTo l t l.length, 0) else ([], 1)) else ([], gueE l 8) := rfl
  by_cases h0 : gueE l 8 = 0
  case neg =>
    rw [if_neg h0] at hK
    have h0' : (gueE l 8 = 0) = False := eq_false h0
    simp -dsimp [Try.f10, E10]
    repeat' (first | omega | (simp -dsimp [E10, ri, cellp, ints, hl, grE_dec, h0', hK]) | (refine Also.intro ?_ fun _ => ?_) | (refine Hold.intro fun _ => ?_) | (refine And.intro ?_ ?_))
  rw [if_pos h0] at hK
  cases h1 : withinB t 0 2000 <;> rw [h1] at hK
  · have hK : wetO l t = ([], 1) := hK
    simp -dsimp [Try.f10, E10]
    repeat' (first | omega | (simp -dsimp [E10, ri, cellp, ints, hl, grE_dec, h0, h1, hK]) | (refine Also.intro ?_ fun _ => ?_) | (refine Hold.intro fun _ => ?_) | (refine And.intro ?_ ?_))
  have hK : wetO l t = (wetTo l t l.length, 0) := hK
  simp -dsimp [Try.f10, E10]
  repeat' (first | omega | (simp -dsimp [E10, ri, cellp, ints, hl, grE_dec, h0, h1]) | (refine Also.intro ?_ fun _ => ?_) | (refine Hold.intro fun _ => ?_) | (refine And.intro ?_ ?_))
  refine awp_loop_g [(4, 1036, 1, 3)] rfl (by simp) [20, 21, 22, 23, 8, 7, 24, 25, 26, 27, 28, 29, 30, 31, 32, 33, 34, 35, 36, 4, 37, 19] (fun k : { k : Nat // k ≤ l.length } => [(19, (true, .int .i64 k.1)), (4, (true, .bsl 1036 0 (wetTo l t k.1).length))]) (fun k => hps [(1036, { base := 0, blks := [{ z := 1, els := (wetTo l t k.1).map ri, ty := 3 }] }), (1008, { base := k.1, blks := [] })] noH) (fun k => l.length - k.1) ⟨0, by omega⟩ ?_ ?_ ?_
  · simp [okAll, okv, wetTo]
  · exact (by (try simp -dsimp only [hpush_noH, hpush_hps, hps_over]); refine hle_hps ?_; simp -dsimp [allK, wetTo]; repeat' (first | (refine And.intro ?_ ?_) | (refine sLe.same ?_ ?_ <;> (simp; done)) | (refine sLe.clear ?_ ?_ <;> (first | (simp; done) | (simp; omega))) | (refine sLe.drop 1 ?_ ?_ ?_ <;> (simp; done))))
  rintro ⟨k, hk⟩
  dsimp only
  have hwl := wetTo_len l t k
  by_cases hk1 : k < l.length
  · have hki : (k : Int) < l.length := by omega
    have wk : IntKind.wrap .i64 ((k : Int) + 1) = (k + 1 : Nat) := wrap_id (by omega) (by omega)
    obtain ⟨g, hu⟩ : ∃ g, l[k]? = some g := ⟨_, List.getElem?_eq_getElem hk1⟩
    have hu' : l[k] = g := (List.getElem?_eq_some_iff.1 hu).2
    have hS : wetTo l t (k + 1) = if wetB g t = true then wetTo l t k ++ [(k : Int)] else wetTo l t k := by rw [wetTo, show guAt l k = g by simp [guAt, List.getD, hu]]
    have hb8 : ((wetTo l t k).length + 1) * 8 ≤ 140737488355328 := by omega
    have hD : wetB g t = (!g.suit || decide (g.dive < t)) := rfl
    cases h2 : g.suit <;> rw [h2] at hD
    · rw [if_pos (by rw [hD]; rfl)] at hS
      simp -dsimp [hki]
      repeat' (first | omega | (simp -dsimp [E10, ri, cellp, ints, hki, hk1, hu, hu', h2, wk, hb8, Gu.row]) | (refine Also.intro ?_ fun _ => ?_) | (refine Hold.intro fun _ => ?_) | (refine And.intro ?_ ?_))
      refine ⟨k + 1, tle_chain rfl ?_, ?_, by omega, by omega⟩
      · simp [okAll, okv, hS]
      · rw [hS]; exact (by (try simp -dsimp only [hpush_noH, hpush_hps, hps_over]); refine hle_hps ?_; simp -dsimp [allK, ri]; repeat' (first | (refine And.intro ?_ ?_) | (refine sLe.same ?_ ?_ <;> (simp; done)) | (refine sLe.clear ?_ ?_ <;> (first | (simp; done) | (simp; omega))) | (refine sLe.drop 1 ?_ ?_ ?_ <;> (simp; done))))
    · by_cases h3 : g.dive < t
      · rw [if_pos (by rw [hD, decide_eq_true h3]; rfl)] at hS
        simp -dsimp [hki]
        repeat' (first | omega | (simp -dsimp [E10, ri, cellp, ints, hki, hk1, hu, hu', h2, h3, wk, hb8, Gu.row]) | (refine Also.intro ?_ fun _ => ?_) | (refine Hold.intro fun _ => ?_) | (refine And.intro ?_ ?_))
        refine ⟨k + 1, tle_chain rfl ?_, ?_, by omega, by omega⟩
        · simp [okAll, okv, hS]
        · rw [hS]; exact (by (try simp -dsimp only [hpush_noH, hpush_hps, hps_over]); refine hle_hps ?_; simp -dsimp [allK, ri]; repeat' (first | (refine And.intro ?_ ?_) | (refine sLe.same ?_ ?_ <;> (simp; done)) | (refine sLe.clear ?_ ?_ <;> (first | (simp; done) | (simp; omega))) | (refine sLe.drop 1 ?_ ?_ ?_ <;> (simp; done))))
      · rw [if_neg (by rw [hD, decide_eq_false h3]; decide)] at hS
        have h3' : (g.dive < t) = False := eq_false h3
        simp -dsimp [hki]
        repeat' (first | omega | (simp -dsimp [E10, ri, cellp, ints, hki, hk1, hu, hu', h2, h3', wk, Gu.row]) | (refine Also.intro ?_ fun _ => ?_) | (refine Hold.intro fun _ => ?_) | (refine And.intro ?_ ?_))
        refine ⟨k + 1, tle_chain rfl ?_, ?_, by omega, by omega⟩
        · simp [okAll, okv, hS]
        · rw [hS]; exact (by (try simp -dsimp only [hpush_noH, hpush_hps, hps_over]); refine hle_hps ?_; simp -dsimp [allK, ri]; repeat' (first | (refine And.intro ?_ ?_) | (refine sLe.same ?_ ?_ <;> (simp; done)) | (refine sLe.clear ?_ ?_ <;> (first | (simp; done) | (simp; omega))) | (refine sLe.drop 1 ?_ ?_ ?_ <;> (simp; done))))
  · have hkn : ¬ (k : Int) < l.length := by omega
    have hke : k = l.length := by omega
    subst hke
    simp -dsimp [hkn]
    repeat' (first | omega | (simp -dsimp [E10, ri, cellp, ints, hkn, hK]) | (refine Also.intro ?_ fun _ => ?_) | (refine Hold.intro fun _ => ?_) | (refine And.intro ?_ ?_))
theorem ok10 : FnOK Try.prog 10 (.pure wetS) := pure_fn (E := E10) rfl (.cons ok37 (.cons ok38 .nil)) (ok := []) (fn := Try.f10) (by kernel_rfl) (by kernel_rfl) (by kernel_rfl) (by kernel_rfl) rfl (fun _ _ => by simp) b10
noncomputable abbrev E12 : Env := { P := Try.prog, fn := tbl [(39, .pure grS), (40, .pure withinS)], own := [], key := 1200, nt := 43 }
theorem b12 : PureBody E12 [] Try.f12 wetS := by
  refine pb ?_
  rintro ⟨l, t⟩ hl
  have hl : l.length ≤ 1000000 := hl
  have hK : wetO l t = if gueE l 8 = 0 then (if withinB t 0 2000 = true then (wetTo l t l.length, 0) else ([], 1)) else ([], gueE l 8) := rfl
  by_cases h0 : gueE l 8 = 0
  case neg =>
    rw [if_neg h0] at hK
    have h0' : (gueE l 8 = 0) = False := eq_false h0
    simp -dsimp [Try.f12, E12]
    repeat' (first | omega | (simp -dsimp [E12, ri, cellp, ints, hl, grE_dec, h0', hK]) | (refine Also.intro ?_ fun _ => ?_) | (refine Hold.intro fun _ => ?_) | (refine And.intro ?_ ?_))
  rw [if_pos h0] at hK
  cases h1 : withinB t 0 2000 <;> rw [h1] at hK
  · have hK : wetO l t = ([], 1) := hK
    simp -dsimp [Try.f12, E12]
    repeat' (first | omega | (simp -dsimp [E12, ri, cellp, ints, hl, grE_dec, h0, h1, hK]) | (refine Also.intro ?_ fun _ => ?_) | (refine Hold.intro fun _ => ?_) | (refine And.intro ?_ ?_))
  have hK : wetO l t = (wetTo l t l.length, 0) := hK
  simp -dsimp [Try.f12, E12]
  repeat' (first | omega | (simp -dsimp [E12, ri, cellp, ints, hl, grE_dec, h0, h1]) | (refine Also.intro ?_ fun _ => ?_) | (refine Hold.intro fun _ => ?_) | (refine And.intro ?_ ?_))
  refine awp_loop_g [(7, 1241, 1, 3)] rfl (by simp) [17, 18, 19, 20, 23, 24, 25, 26, 27, 28, 29, 30, 31, 32, 33, 34, 35, 36, 37, 38, 39, 40, 41, 7, 21, 22, 8] (fun k : { k : Nat // k ≤ l.length } => [(8, (true, .int .i64 k.1)), (7, (true, .bsl 1241 0 (wetTo l t k.1).length))]) (fun k => hps [(1241, { base := 0, blks := [{ z := 1, els := (wetTo l t k.1).map ri, ty := 3 }] })] noH) (fun k => l.length - k.1) ⟨0, by omega⟩ ?_ ?_ ?_
  · simp [okAll, okv, wetTo]
  · exact (by (try simp -dsimp only [hpush_noH, hpush_hps, hps_over]); refine hle_hps ?_; simp -dsimp [allK, wetTo]; repeat' (first | (refine And.intro ?_ ?_) | (refine sLe.same ?_ ?_ <;> (simp; done)) | (refine sLe.clear ?_ ?_ <;> (first | (simp; done) | (simp; omega))) | (refine sLe.drop 1 ?_ ?_ ?_ <;> (simp; done))))
  rintro ⟨k, hk⟩
  dsimp only
  have hwl := wetTo_len l t k
  by_cases hk1 : k < l.length
  · have hki : (k : Int) < l.length := by omega
    have wk : IntKind.wrap .i64 ((k : Int) + 1) = (k + 1 : Nat) := wrap_id (by omega) (by omega)
    obtain ⟨g, hu⟩ : ∃ g, l[k]? = some g := ⟨_, List.getElem?_eq_getElem hk1⟩
    have hu' : l[k] = g := (List.getElem?_eq_some_iff.1 hu).2
    have hS : wetTo l t (k + 1) = if wetB g t = true then wetTo l t k ++ [(k : Int)] else wetTo l t k := by rw [wetTo, show guAt l k = g by simp [guAt, List.getD, hu]]
    have hb8 : ((wetTo l t k).length + 1) * 8 ≤ 140737488355328 := by omega
    have hD : wetB g t = (!g.suit || decide (g.dive < t)) := rfl
    cases h2 : g.suit <;> rw [h2] at hD
    · rw [if_pos (by rw [hD]; rfl)] at hS
      simp -dsimp [hki]
      repeat' (first | omega | (simp -dsimp [E12, ri, cellp, ints, hki, hk1, hu, hu', h2, wk, hb8, Gu.row]) | (refine Also.intro ?_ fun _ => ?_) | (refine Hold.intro fun _ => ?_) | (refine And.intro ?_ ?_))
      refine ⟨k + 1, tle_chain rfl ?_, ?_, by omega, by omega⟩
      · simp [okAll, okv, hS]
      · rw [hS]; exact (by (try simp -dsimp only [hpush_noH, hpush_hps, hps_over]); refine hle_hps ?_; simp -dsimp [allK, ri]; repeat' (first | (refine And.intro ?_ ?_) | (refine sLe.same ?_ ?_ <;> (simp; done)) | (refine sLe.clear ?_ ?_ <;> (first | (simp; done) | (simp; omega))) | (refine sLe.drop 1 ?_ ?_ ?_ <;> (simp; done))))
    · by_cases h3 : g.dive < t
      · rw [if_pos (by rw [hD, decide_eq_true h3]; rfl)] at hS
        simp -dsimp [hki]
        repeat' (first | omega | (simp -dsimp [E12, ri, cellp, ints, hki, hk1, hu, hu', h2, h3, wk, hb8, Gu.row]) | (refine Also.intro ?_ fun _ => ?_) | (refine Hold.intro fun _ => ?_) | (refine And.intro ?_ ?_))
        refine ⟨k + 1, tle_chain rfl ?_, ?_, by omega, by omega⟩
        · simp [okAll, okv, hS]
        · rw [hS]; exact (by (try simp -dsimp only [hpush_noH, hpush_hps, hps_over]); refine hle_hps ?_; simp -dsimp [allK, ri]; repeat' (first | (refine And.intro ?_ ?_) | (refine sLe.same ?_ ?_ <;> (simp; done)) | (refine sLe.clear ?_ ?_ <;> (first | (simp; done) | (simp; omega))) | (refine sLe.drop 1 ?_ ?_ ?_ <;> (simp; done))))
      · rw [if_neg (by rw [hD, decide_eq_false h3]; decide)] at hS
        have h3' : (g.dive < t) = False := eq_false h3
        simp -dsimp [hki]
        repeat' (first | omega | (simp -dsimp [E12, ri, cellp, ints, hki, hk1, hu, hu', h2, h3', wk, Gu.row]) | (refine Also.intro ?_ fun _ => ?_) | (refine Hold.intro fun _ => ?_) | (refine And.intro ?_ ?_))
        refine ⟨k + 1, tle_chain rfl ?_, ?_, by omega, by omega⟩
        · simp [okAll, okv, hS]
        · rw [hS]; exact (by (try simp -dsimp only [hpush_noH, hpush_hps, hps_over]); refine hle_hps ?_; simp -dsimp [allK, ri]; repeat' (first | (refine And.intro ?_ ?_) | (refine sLe.same ?_ ?_ <;> (simp; done)) | (refine sLe.clear ?_ ?_ <;> (first | (simp; done) | (simp; omega))) | (refine sLe.drop 1 ?_ ?_ ?_ <;> (simp; done))))
  · have hkn : ¬ (k : Int) < l.length := by omega
    have hke : k = l.length := by omega
    subst hke
    simp -dsimp [hkn]
    repeat' (first | omega | (simp -dsimp [E12, ri, cellp, ints, hkn, hK]) | (refine Also.intro ?_ fun _ => ?_) | (refine Hold.intro fun _ => ?_) | (refine And.intro ?_ ?_))
theorem ok12 : FnOK Try.prog 12 (.pure wetS) := pure_fn (E := E12) rfl (.cons ok39 (.cons ok40 .nil)) (ok := []) (fn := Try.f12) (by kernel_rfl) (by kernel_rfl) (by kernel_rfl) (by kernel_rfl) rfl (fun _ _ => by simp) b12
end Go.Sx
end
section
/- Crew: what the arguments of the laws read as. No conditions. -/
set_option linter.unusedSimpArgs false
set_option linter.unusedSectionVars false
set_option maxRecDepth 100000
namespace Go.Sx
open Go.Proofs Go.RowKit

/-- A number of the machine. -/
def I64 (n : Int) : Prop := -9223372036854775808 ≤ n ∧ n ≤ 9223372036854775807
theorem tyV_bool {P : Program} {g : Nat} {t : TypeId} {vs : List V} (h : tyV P (g + 1) t vs) (hk : P.underlying t = some .bool) : ∃ b, vs = [.bool b] := by
  simp only [tyV, hk] at h; exact h
theorem int_cellb {g : Nat} {vs : List V} (h : tyV Try.prog (g + 1) 3 vs) : ∃ n, vs = [.int .i64 n] ∧ I64 n := by
  obtain ⟨n, h1, h2⟩ := tyV_int h Ty.ik3
  refine ⟨n, h1, ?_⟩
  have h3 : IntKind.i64.min ≤ n ∧ n ≤ IntKind.i64.max := by simpa only [Lit.wf, Bool.and_eq_true, decide_eq_true_eq] using h2
  rwa [show IntKind.i64.min = -9223372036854775808 by decide, show IntKind.i64.max = 9223372036854775807 by decide] at h3
theorem int_cell {g : Nat} {vs : List V} (h : tyV Try.prog (g + 1) 3 vs) : ∃ n, vs = [.int .i64 n] := by
  obtain ⟨n, h1, _⟩ := int_cellb h; exact ⟨n, h1⟩
theorem bool_cell {g : Nat} {vs : List V} (h : tyV Try.prog (g + 1) 4 vs) : ∃ n, vs = [.bool n] := tyV_bool h (by kernel_rfl)
theorem int_of {g : Nat} {x : V} (h : argTy Try.prog (g + 1) 3 x) : ∃ n, x = .int .i64 n := by
  obtain ⟨n, h1⟩ := int_cell (argTy_one h Ty.ag3)
  exact ⟨n, by simpa using h1⟩
theorem ints_cell {g : Nat} {vs : List V} (h : tyV Try.prog (g + 2) 24 vs) : ∃ l : List Int, vs = [ints l] ∧ l.length ≤ 17592186043904 := by
  obtain ⟨els, h1, h2, h3⟩ := tyV_slw h Ty.se24
  obtain ⟨l, hl⟩ := rows_map (R := ri) (els := els) (fun row hr => int_cell (h3 row hr))
  subst hl
  rw [Ty.cz3] at h1
  rw [Ty.by3] at h2
  exact ⟨l, h1, by simp at h2; omega⟩
theorem gu_cell {g : Nat} {vs : List V} (h : tyV Try.prog (g + 2) 88 vs) : ∃ p : Gu, vs = Gu.row p := by
  have hl := tyV_len h Ty.ag88
  rw [Ty.cz88] at hl
  obtain ⟨n0, e0⟩ := int_cell (tyV_fld h Ty.fd88_0)
  obtain ⟨n1, e1⟩ := bool_cell (tyV_fld h Ty.fd88_1)
  obtain ⟨n2, e2⟩ := int_cell (tyV_fld h Ty.fd88_2)
  obtain ⟨n3, e3⟩ := bool_cell (tyV_fld h Ty.fd88_3)
  rw [Ty.cz3] at e0 e2
  rw [Ty.cz4] at e1 e3
  match vs, hl with
  | [x0, x1, x2, x3], _ =>
    simp at e0 e1 e2 e3
    subst e0 e1 e2 e3
    exact ⟨⟨n0, n1, n2, n3⟩, rfl⟩
theorem gus_of {g : Nat} {x : V} (h : argTy Try.prog (g + 3) 22 x) : ∃ l : List Gu, x = .sl 4 (l.map Gu.row) := by
  obtain ⟨els, h1, h2, h3⟩ := tyV_slw (argTy_one h Ty.ag22) Ty.se22
  obtain ⟨l, hl⟩ := rows_map (R := Gu.row) (els := els) (fun row hr => gu_cell (h3 row hr))
  subst hl
  rw [Ty.cz88] at h1
  exact ⟨l, by simpa using h1⟩
theorem pn_cell {g : Nat} {vs : List V} (h : tyV Try.prog (g + 2) 69 vs) : ∃ p : Pn, vs = Pn.row p := by
  have hl := tyV_len h Ty.ag69
  rw [Ty.cz69] at hl
  obtain ⟨n0, e0⟩ := int_cell (tyV_fld h Ty.fd69_0)
  obtain ⟨n1, e1⟩ := int_cell (tyV_fld h Ty.fd69_1)
  obtain ⟨n2, e2⟩ := int_cell (tyV_fld h Ty.fd69_2)
  rw [Ty.cz3] at e0 e1 e2
  match vs, hl with
  | [x0, x1, x2], _ =>
    simp at e0 e1 e2
    subst e0 e1 e2
    exact ⟨⟨n0, n1, n2⟩, rfl⟩
abbrev DuI : Type := { d : Du // I64 d.a ∧ I64 d.b }
theorem du_cell {g : Nat} {vs : List V} (h : tyV Try.prog (g + 2) 66 vs) : ∃ p : DuI, vs = Du.row p.1 := by
  have hl := tyV_len h Ty.ag66
  rw [Ty.cz66] at hl
  obtain ⟨n0, e0⟩ := int_cell (tyV_fld h Ty.fd66_0)
  obtain ⟨n1, e1, b1⟩ := int_cellb (tyV_fld h Ty.fd66_1)
  obtain ⟨n2, e2, b2⟩ := int_cellb (tyV_fld h Ty.fd66_2)
  rw [Ty.cz3] at e0 e1 e2
  match vs, hl with
  | [x0, x1, x2], _ =>
    simp at e0 e1 e2
    subst e0 e1 e2
    exact ⟨⟨⟨n0, n1, n2⟩, b1, b2⟩, rfl⟩
theorem dus_of {g : Nat} {x : V} (h : argTy Try.prog (g + 3) 34 x) : ∃ l : List Du, x = .sl 3 (l.map Du.row) ∧ ∀ d ∈ l, I64 d.a ∧ I64 d.b := by
  obtain ⟨els, h1, h2, h3⟩ := tyV_slw (argTy_one h Ty.ag34) Ty.se34
  obtain ⟨l, hl⟩ := rows_map (R := fun d : DuI => Du.row d.1) (els := els) (fun row hr => du_cell (h3 row hr))
  subst hl
  rw [Ty.cz66] at h1
  refine ⟨l.map (·.1), ?_, fun d hd => ?_⟩
  · rw [List.map_map]; simpa using h1
  · obtain ⟨e, _, rfl⟩ := List.mem_map.1 hd
    exact e.2
theorem ro_of {g : Nat} {x : V} (h : argTy Try.prog (g + 4) 33 x) : ∃ r : Ro, x = .agg r.row := by
  obtain ⟨vs, e, k⟩ := argTy_agg h Ty.ag33
  subst e
  have hl := tyV_len k Ty.ag33
  rw [Ty.cz33] at hl
  obtain ⟨els, e0, _, h3⟩ := tyV_slw (tyV_fld k Ty.fd33_0) Ty.se31
  obtain ⟨l, hl2⟩ := rows_map (R := Pn.row) (els := els) (fun row hr => pn_cell (h3 row hr))
  subst hl2
  obtain ⟨n1, e1⟩ := int_cell (tyV_fld k Ty.fd33_1)
  obtain ⟨n2, e2⟩ := int_cell (tyV_fld k Ty.fd33_2)
  obtain ⟨n3, e3⟩ := int_cell (tyV_fld k Ty.fd33_3)
  obtain ⟨n4, e4⟩ := int_cell (tyV_fld k Ty.fd33_4)
  obtain ⟨n5, e5⟩ := int_cell (tyV_fld k Ty.fd33_5)
  rw [Ty.cz3] at e1 e2 e3 e4 e5
  rw [Ty.cz31, Ty.cz69] at e0
  match vs, hl with
  | [x0, x1, x2, x3, x4, x5], _ =>
    simp at e0 e1 e2 e3 e4 e5
    subst e0 e1 e2 e3 e4 e5
    exact ⟨⟨l, n1, n2, n3, n4, n5⟩, rfl⟩
theorem se_cell {g : Nat} {vs : List V} (h : tyV Try.prog (g + 2) 115 vs) : ∃ p : Se, vs = Se.row p := by
  have hl := tyV_len h Ty.ag115
  rw [Ty.cz115] at hl
  obtain ⟨n0, e0⟩ := int_cell (tyV_fld h Ty.fd115_0)
  obtain ⟨n1, e1⟩ := bool_cell (tyV_fld h Ty.fd115_1)
  rw [Ty.cz3] at e0
  rw [Ty.cz4] at e1
  match vs, hl with
  | [x0, x1], _ =>
    simp at e0 e1
    subst e0 e1
    exact ⟨⟨n0, n1⟩, rfl⟩
theorem ca_of {g : Nat} {x : V} (h : argTy Try.prog (g + 4) 49 x) : ∃ r : Ca, x = .agg r.row := by
  obtain ⟨vs, e, k⟩ := argTy_agg h Ty.ag49
  subst e
  have hl := tyV_len k Ty.ag49
  rw [Ty.cz49] at hl
  obtain ⟨els, e2, _, h3⟩ := tyV_slw (tyV_fld k Ty.fd49_2) Ty.se47
  obtain ⟨l, hl2⟩ := rows_map (R := Se.row) (els := els) (fun row hr => se_cell (h3 row hr))
  subst hl2
  obtain ⟨n0, e0⟩ := int_cell (tyV_fld k Ty.fd49_0)
  obtain ⟨n1, e1⟩ := int_cell (tyV_fld k Ty.fd49_1)
  obtain ⟨n3, e3⟩ := int_cell (tyV_fld k Ty.fd49_3)
  obtain ⟨n4, e4⟩ := int_cell (tyV_fld k Ty.fd49_4)
  obtain ⟨n5, e5⟩ := int_cell (tyV_fld k Ty.fd49_5)
  rw [Ty.cz3] at e0 e1 e3 e4 e5
  rw [Ty.cz47, Ty.cz115] at e2
  match vs, hl with
  | [x0, x1, x2, x3, x4, x5], _ =>
    simp at e0 e1 e2 e3 e4 e5
    subst e0 e1 e2 e3 e4 e5
    exact ⟨⟨n0, n1, l, n3, n4, n5⟩, rfl⟩
theorem cl_cell {g : Nat} {vs : List V} (h : tyV Try.prog (g + 2) 36 vs) : ∃ p : Cl, vs = Cl.row p ∧ I64 p.a ∧ I64 p.b := by
  have hl := tyV_len h Ty.ag36
  rw [Ty.cz36] at hl
  obtain ⟨n0, e0, b0⟩ := int_cellb (tyV_fld h Ty.fd36_0)
  obtain ⟨n1, e1, b1⟩ := int_cellb (tyV_fld h Ty.fd36_1)
  obtain ⟨n2, e2⟩ := int_cell (tyV_fld h Ty.fd36_2)
  obtain ⟨n3, e3⟩ := bool_cell (tyV_fld h Ty.fd36_3)
  rw [Ty.cz3] at e0 e1 e2
  rw [Ty.cz4] at e3
  match vs, hl with
  | [x0, x1, x2, x3], _ =>
    simp at e0 e1 e2 e3
    subst e0 e1 e2 e3
    exact ⟨⟨n0, n1, n2, n3⟩, rfl, b0, b1⟩
theorem cl_of {g : Nat} {x : V} (h : argTy Try.prog (g + 2) 36 x) : ∃ c : Cl, x = .agg c.row ∧ I64 c.a ∧ I64 c.b := by
  obtain ⟨vs, e, k⟩ := argTy_agg h Ty.ag36
  obtain ⟨c, hc, b⟩ := cl_cell k
  exact ⟨c, by rw [e, hc], b⟩
structure Nd where
  c : Cl
  n : Int
  deriving Inhabited
def Nd.row (d : Nd) : List V := [.int .i64 d.c.a, .int .i64 d.c.b, .int .i64 d.c.craft, .bool d.c.water, .int .i64 d.n]
theorem nd_cell {g : Nat} {vs : List V} (h : tyV Try.prog (g + 3) 38 vs) : ∃ p : Nd, vs = Nd.row p ∧ I64 p.c.a ∧ I64 p.c.b := by
  have hl := tyV_len h Ty.ag38
  rw [Ty.cz38] at hl
  obtain ⟨c, e0, b⟩ := cl_cell (tyV_fld h Ty.fd38_0)
  obtain ⟨n1, e1⟩ := int_cell (tyV_fld h Ty.fd38_1)
  rw [Ty.cz3] at e1
  rw [Ty.cz36] at e0
  match vs, hl with
  | [x0, x1, x2, x3, x4], _ =>
    simp [Cl.row] at e0 e1
    obtain ⟨rfl, rfl, rfl, rfl⟩ := e0
    subst e1
    exact ⟨⟨c, n1⟩, rfl, b⟩
structure Ez where
  d : Nd
  lng : Int
  rst : Int
  tot : Int
  rcn : Int
  deriving Inhabited
def Ez.row (e : Ez) : List V := [.int .i64 e.d.c.a, .int .i64 e.d.c.b, .int .i64 e.d.c.craft, .bool e.d.c.water, .int .i64 e.d.n, .int .i64 e.lng, .int .i64 e.rst, .int .i64 e.tot, .int .i64 e.rcn]
theorem ez_of {g : Nat} {x : V} (h : argTy Try.prog (g + 4) 40 x) : ∃ e : Ez, x = .agg e.row ∧ I64 e.d.c.a ∧ I64 e.d.c.b := by
  obtain ⟨vs, e, k⟩ := argTy_agg h Ty.ag40
  subst e
  have hl := tyV_len k Ty.ag40
  rw [Ty.cz40] at hl
  obtain ⟨c, e0, b⟩ := nd_cell (tyV_fld k Ty.fd40_0)
  obtain ⟨n1, e1⟩ := int_cell (tyV_fld k Ty.fd40_1)
  obtain ⟨n2, e2⟩ := int_cell (tyV_fld k Ty.fd40_2)
  obtain ⟨n3, e3⟩ := int_cell (tyV_fld k Ty.fd40_3)
  obtain ⟨n4, e4⟩ := int_cell (tyV_fld k Ty.fd40_4)
  rw [Ty.cz3] at e1 e2 e3 e4
  rw [Ty.cz38] at e0
  match vs, hl with
  | [x0, x1, x2, x3, x4, x5, x6, x7, x8], _ =>
    simp [Nd.row] at e0 e1 e2 e3 e4
    obtain ⟨rfl, rfl, rfl, rfl, rfl⟩ := e0
    subst e1 e2 e3 e4
    exact ⟨⟨c, n1, n2, n3, n4⟩, rfl, b⟩
theorem sp_cell {g : Nat} {vs : List V} (h : tyV Try.prog (g + 2) 51 vs) : ∃ p : Sp, vs = Sp.row p := by
  have hl := tyV_len h Ty.ag51
  rw [Ty.cz51] at hl
  obtain ⟨n0, e0⟩ := int_cell (tyV_fld h Ty.fd51_0)
  obtain ⟨n1, e1⟩ := int_cell (tyV_fld h Ty.fd51_1)
  rw [Ty.cz3] at e0 e1
  match vs, hl with
  | [x0, x1], _ =>
    simp at e0 e1
    subst e0 e1
    exact ⟨⟨n0, n1⟩, rfl⟩
structure Pl where
  f : Sp
  s : List Int
  deriving Inhabited
def Pl.row (p : Pl) : List V := [.int .i64 p.f.lo, .int .i64 p.f.hi, .sl 1 (p.s.map ri)]
theorem Pl.row_inj (a b : Pl) (h : a.row = b.row) : a = b := by
  obtain ⟨⟨a1, a2⟩, a3⟩ := a; obtain ⟨⟨b1, b2⟩, b3⟩ := b
  simp only [Pl.row, List.cons.injEq, V.sl.injEq, V.int.injEq, true_and, and_true] at h
  rw [h.1, h.2.1, map_ri_inj h.2.2]
theorem pl_cell {g : Nat} {vs : List V} (h : tyV Try.prog (g + 3) 53 vs) : ∃ p : Pl, vs = Pl.row p := by
  have hl := tyV_len h Ty.ag53
  rw [Ty.cz53] at hl
  obtain ⟨f, e0⟩ := sp_cell (tyV_fld h Ty.fd53_0)
  obtain ⟨s, e1, _⟩ := ints_cell (tyV_fld h Ty.fd53_1)
  rw [Ty.cz51] at e0
  rw [Ty.cz24] at e1
  match vs, hl with
  | [x0, x1, x2], _ =>
    simp [Sp.row] at e0 e1
    obtain ⟨rfl, rfl⟩ := e0
    subst e1
    exact ⟨⟨f, s⟩, rfl⟩
theorem pl_of {g : Nat} {x : V} (h : argTy Try.prog (g + 3) 53 x) : ∃ c : Pl, x = .agg c.row := by
  obtain ⟨vs, e, k⟩ := argTy_agg h Ty.ag53
  obtain ⟨c, hc⟩ := pl_cell k
  exact ⟨c, by rw [e, hc]⟩
structure So where
  p : Pl
  x : Int
  y : Int
  deriving Inhabited
def So.row (o : So) : List V := [.int .i64 o.p.f.lo, .int .i64 o.p.f.hi, .sl 1 (o.p.s.map ri), .int .i64 o.x, .int .i64 o.y]
theorem So.row_inj (a b : So) (h : a.row = b.row) : a = b := by
  obtain ⟨⟨⟨a1, a2⟩, a3⟩, a4, a5⟩ := a; obtain ⟨⟨⟨b1, b2⟩, b3⟩, b4, b5⟩ := b
  simp only [So.row, List.cons.injEq, V.sl.injEq, V.int.injEq, true_and, and_true] at h
  rw [h.1, h.2.1, map_ri_inj h.2.2.1, h.2.2.2.1, h.2.2.2.2]
theorem so_of {g : Nat} {x : V} (h : argTy Try.prog (g + 4) 72 x) : ∃ c : So, x = .agg c.row ∧ I64 c.x ∧ I64 c.y := by
  obtain ⟨vs, e, k⟩ := argTy_agg h Ty.ag72
  subst e
  have hl := tyV_len k Ty.ag72
  rw [Ty.cz72] at hl
  obtain ⟨p, e0⟩ := pl_cell (tyV_fld k Ty.fd72_0)
  have h67 := tyV_fld k Ty.fd72_1
  have ha := tyV_arr h67 Ty.ae67
  obtain ⟨a, ea, ba⟩ := int_cellb (ha 0 (by omega))
  obtain ⟨b, eb, bb⟩ := int_cellb (ha 1 (by omega))
  rw [Ty.cz3, Ty.cz67] at ea eb
  rw [Ty.cz53] at e0
  match vs, hl with
  | [x0, x1, x2, x3, x4], _ =>
    simp [Pl.row] at e0 ea eb
    obtain ⟨rfl, rfl, rfl⟩ := e0
    subst ea eb
    exact ⟨⟨p, a, b⟩, rfl, ba, bb⟩
end Go.Sx
end
section
/- Crew, plain: easier rules forbid nothing new; a duty of who may fly a call can be put behind all others; the center with any fuel between. No conditions. -/
set_option linter.unusedSimpArgs false
set_option linter.unusedSectionVars false
namespace Go.Sx

/-! fuel -/
theorem lin_ge {A B lo hi f : Int} (h1 : 0 ≤ A + lo * B) (h2 : 0 ≤ A + hi * B) (a : lo ≤ f) (b : f ≤ hi) : 0 ≤ A + f * B := by
  rcases Int.le_total 0 B with h | h
  · have := Int.mul_le_mul_of_nonneg_right a h; omega
  · have := Int.mul_le_mul_of_nonpos_right b h; omega
theorem ct_lo (c : Ca) (l : List Gu) (s : List Int) (L f : Int) : L * wgt c l f ≤ mom c l s f ↔ 0 ≤ (c.emp * c.arm + mTo c l s l.length - L * (c.emp + wTo l l.length)) + f * (c.farm - L) := by
  unfold wgt mom
  rw [Int.mul_add, Int.mul_sub, Int.mul_comm f L]; omega
theorem ct_hi (c : Ca) (l : List Gu) (s : List Int) (L f : Int) : mom c l s f ≤ L * wgt c l f ↔ 0 ≤ (L * (c.emp + wTo l l.length) - (c.emp * c.arm + mTo c l s l.length)) + f * (L - c.farm) := by
  unfold wgt mom
  rw [Int.mul_add, Int.mul_sub, Int.mul_comm f L]; omega
theorem between_lo {c : Ca} {l : List Gu} {s : List Int} {L lo hi f : Int} (h1 : L * wgt c l lo ≤ mom c l s lo) (h2 : L * wgt c l hi ≤ mom c l s hi) (a : lo ≤ f) (b : f ≤ hi) : L * wgt c l f ≤ mom c l s f := by
  rw [ct_lo] at *; exact lin_ge h1 h2 a b
theorem between_hi {c : Ca} {l : List Gu} {s : List Int} {L lo hi f : Int} (h1 : mom c l s lo ≤ L * wgt c l lo) (h2 : mom c l s hi ≤ L * wgt c l hi) (a : lo ≤ f) (b : f ≤ hi) : mom c l s f ≤ L * wgt c l f := by
  rw [ct_hi] at *; exact lin_ge h1 h2 a b
theorem wgt_pos {c : Ca} {l : List Gu} {f : Sp} (h : LFit c l f) {x : Int} (hx : 0 ≤ x) : 0 < wgt c l x := by
  have := (wTo_bd h.gf l.length (Nat.le_refl _)).1
  have := h.cf.emp
  unfold wgt; omega
theorem fuel_bal {c : Ca} {l : List Gu} {f : Sp} {s : List Int} (hb : balB c l f s = true) {x : Int} (h1 : f.lo ≤ x) (h2 : x ≤ f.hi) : ctB c (wgt c l x) (mom c l s x) = true := by
  unfold balB ctB at hb
  simp only [Bool.and_eq_true, decide_eq_true_eq] at hb
  unfold ctB
  rw [decide_eq_true_eq]
  exact ⟨between_lo hb.1.1 hb.2.1 h1 h2, between_hi hb.1.2 hb.2.2 h1 h2⟩
theorem fuel_part {c : Ca} {l : List Gu} {f : Sp} {s : List Int} (hb : balB c l f s = true) {x y : Int} (h1 : f.lo ≤ x) (h2 : x ≤ f.hi) (h3 : f.lo ≤ y) (h4 : y ≤ f.hi) : balB c l ⟨min x y, max x y⟩ s = true := by
  unfold balB
  rw [Bool.and_eq_true]
  exact ⟨fuel_bal hb (by simp only; omega) (by simp only; omega), fuel_bal hb (by simp only; omega) (by simp only; omega)⟩
theorem le_floor {L m w : Int} (hw : 0 < w) (h : L ≤ m / w) : L * w ≤ m := by
  have := Int.mul_le_mul_of_nonneg_right h (Int.le_of_lt hw)
  have := Int.ediv_mul_le m (Int.ne_of_gt hw)
  omega
theorem fuel_center {c : Ca} {l : List Gu} {f : Sp} {s : List Int} (h : LFit c l f) {x : Int} (h1 : f.lo ≤ x) (h2 : x ≤ f.hi) : (cenL c l f s).lo * wgt c l x ≤ mom c l s x ∧ mom c l s x ≤ (cenL c l f s).hi * wgt c l x := by
  have w1 := wgt_pos h h.ff.1
  have w2 := wgt_pos h (x := f.hi) (by have := h.ff; omega)
  constructor
  · refine between_lo (le_floor w1 ?_) (le_floor w2 ?_) h1 h2
    · unfold cenL; simp only; omega
    · unfold cenL; simp only; omega
  · refine between_hi ?_ ?_ h1 h2
    · have := le_floor (L := -(cenL c l f s).hi) (m := -mom c l s f.lo) w1 (by unfold cenL; simp only; omega)
      rw [Int.neg_mul] at this; omega
    · have := le_floor (L := -(cenL c l f s).hi) (m := -mom c l s f.hi) w2 (by unfold cenL; simp only; omega)
      rw [Int.neg_mul] at this; omega
/-- The program's floor. -/
theorem floor_prog (m w : Int) (hw : 0 < w) : (if m.tmod w < 0 then m.tdiv w - 1 else m.tdiv w) = m / w := by
  rcases Int.le_total 0 m with h | h
  · rw [Int.tdiv_eq_ediv_of_nonneg h, Int.tmod_eq_emod_of_nonneg h, if_neg (by have := Int.emod_nonneg m (Int.ne_of_gt hw); omega)]
  · obtain ⟨k, rfl⟩ : ∃ k, m = -k := ⟨-m, by omega⟩
    have hk : 0 ≤ k := by omega
    rw [Int.neg_tmod, Int.neg_tdiv, Int.tdiv_eq_ediv_of_nonneg hk, Int.tmod_eq_emod_of_nonneg hk]
    have e := Int.mul_ediv_add_emod k w
    have e2 := Int.emod_nonneg k (Int.ne_of_gt hw)
    have e3 := Int.emod_lt_of_pos k hw
    generalize k / w = q at *
    generalize k % w = t at *
    split
    · rename_i h0
      symm
      rw [Int.ediv_eq_iff_of_pos hw]
      constructor
      · rw [Int.sub_mul, Int.neg_mul, Int.mul_comm q w]; omega
      · rw [Int.sub_mul, Int.neg_mul, Int.mul_comm q w]; omega
    · rename_i h0
      symm
      rw [Int.ediv_eq_iff_of_pos hw]
      constructor
      · rw [Int.neg_mul, Int.mul_comm q w]; omega
      · rw [Int.neg_mul, Int.mul_comm q w]; omega
/-- The reference's floor. -/
theorem floor_ref (m w : Int) (hw : 0 < w) (hm : m < 0) : -((-m + w - 1).tdiv w) = m / w := by
  obtain ⟨k, rfl⟩ : ∃ k, m = -k := ⟨-m, by omega⟩
  rw [Int.tdiv_eq_ediv_of_nonneg (by omega)]
  symm
  rw [Int.ediv_eq_iff_of_pos hw]
  have e := Int.mul_ediv_add_emod (- -k + w - 1) w
  have e2 := Int.emod_nonneg (- -k + w - 1) (Int.ne_of_gt hw)
  have e3 := Int.emod_lt_of_pos (- -k + w - 1) hw
  generalize (- -k + w - 1) / w = q at *
  generalize (- -k + w - 1) % w = t at *
  constructor
  · rw [Int.neg_mul, Int.mul_comm q w]; omega
  · rw [Int.neg_mul, Int.mul_comm q w]; omega

/-! easier rules -/
structure Eas (r r' : Ro) : Prop where
  ppl : r'.ppl = r.ppl
  win : r'.win = r.win
  lng : r.lng ≤ r'.lng
  rst : r'.rst ≤ r.rst
  tot : r.tot ≤ r'.tot
  rcn : r.rcn ≤ r'.rcn
section
variable (srt : List Du → List Du)
theorem totW_mono {l : List Du} {W T T' : Int} (h : T ≤ T') (ht : totW srt l W T = true) : totW srt l W T' = true := by
  unfold totW at *
  rw [List.all_eq_true] at *
  intro d hd
  have := ht d hd
  simp only [Bool.and_eq_true, decide_eq_true_eq] at *
  omega
theorem restW_mono {r r' : Ro} (he : Eas r r') (h1 : 0 ≤ r'.rst) (h2 : r.rst ≤ 2000) {x y : Du} (hx : -9223372036854775808 ≤ x.b ∧ x.b ≤ 2000) (hy : -9223372036854775808 ≤ y.b ∧ y.b ≤ 2000) (h : restW r x y = true) : restW r' x y = true := by
  have := he.rst
  unfold restW at *
  rw [show wr (y.b + r.rst) = y.b + r.rst from wrap_id (by omega) (by omega), show wr (x.b + r.rst) = x.b + r.rst from wrap_id (by omega) (by omega)] at h
  rw [show wr (y.b + r'.rst) = y.b + r'.rst from wrap_id (by omega) (by omega), show wr (x.b + r'.rst) = x.b + r'.rst from wrap_id (by omega) (by omega)]
  split at h
  · rw [if_pos (by assumption)]; simp only [decide_eq_true_eq] at *; omega
  · rw [if_neg (by assumption)]; simp only [decide_eq_true_eq] at *; omega
theorem recW_mono {r r' : Ro} (he : Eas r r') {o : List Du} {x : Du} (h : recW r o x = true) : recW r' o x = true := by
  have := he.rcn
  unfold recW at *
  simp only [Bool.or_eq_true, decide_eq_true_eq, List.any_eq_true] at *
  rcases h with h | ⟨d, hd, h⟩
  · left; omega
  · right; refine ⟨d, hd, ?_⟩
    unfold nearW at *; simp only [decide_eq_true_eq] at *; omega
/-- Ends of duties that are no greater than the last tick. -/
def Low (l : List Du) : Prop := ∀ d ∈ l, -9223372036854775808 ≤ d.b ∧ d.b ≤ 2000
theorem brkW_mono {r r' : Ro} (he : Eas r r') (h1 : 0 ≤ r'.rst) (h2 : r.rst ≤ 2000) {o : List Du} {x : Du} (ho : Low o) (hx : -9223372036854775808 ≤ x.b ∧ x.b ≤ 2000) {n : Int} (h : n ∈ brkW srt r' o x) : n ∈ brkW srt r o x := by
  unfold brkW at *
  simp only [List.mem_append] at *
  rcases h with ((h | h) | h) | h
  · left; left; left
    split at h
    · rename_i h3
      rw [if_pos]; exact h
      rw [List.any_eq_true] at *
      obtain ⟨d, hd, h4⟩ := h3
      refine ⟨d, hd, ?_⟩
      cases h5 : restW r d x
      · rfl
      · rw [restW_mono he h1 h2 (ho d hd) hx h5] at h4; exact h4
    · simp at h
  · left; left; right
    split at h
    · rw [if_pos]; exact h
      have := he.lng; omega
    · simp at h
  · left; right
    split at h
    · simp at h
    · rename_i h3
      rw [if_neg]; exact h
      intro h4
      exact h3 (he.win ▸ totW_mono srt he.tot h4)
  · right
    split at h
    · simp at h
    · rename_i h3
      rw [if_neg]; exact h
      intro h4
      exact h3 (recW_mono he h4)
theorem brkW_mono_nil {r r' : Ro} (he : Eas r r') (h1 : 0 ≤ r'.rst) (h2 : r.rst ≤ 2000) {o : List Du} {x : Du} (ho : Low o) (hx : -9223372036854775808 ≤ x.b ∧ x.b ≤ 2000) (h : (brkW srt r o x).isEmpty = true) : (brkW srt r' o x).isEmpty = true := by
  rw [List.isEmpty_iff] at *
  rw [List.eq_nil_iff_forall_not_mem] at *
  exact fun n hn => h n (brkW_mono srt he h1 h2 ho hx hn)
theorem strW_low {a b : Int} (h : strW a b = true) : b ≤ 2000 := by
  unfold strW at h; simp only [Bool.and_eq_true, decide_eq_true_eq] at h; exact h.2
/-- Duties that are right stay right. -/
theorem chkEW_easier {r r' : Ro} (he : Eas r r') (h1 : 0 ≤ r'.rst) (hok : r'.ok = true) {l : List Du} (hl : ∀ d ∈ l, -9223372036854775808 ≤ d.b) (h : (chkEW srt r l).2 = 0) : (chkEW srt r' l).2 = 0 := by
  unfold chkEW at *
  split at h
  · rename_i g1
    have hf := Ro.ok_iff.1 g1
    split at h
    · simp at h
    · rename_i g2
      split at h
      · simp at h
      · rename_i g3
        have hall : ∀ j, j < l.length → duOkW srt r l j = true := by
          intro j hj
          apply Classical.byContradiction
          intro hne
          have h0 := idxZ_any (List.range l.length) (fun i => !duOkW srt r l i)
          rw [decide_eq_false (by rw [badDuW] at g3; exact g3)] at h0
          have := (List.any_eq_false.1 h0.symm) j (List.mem_range.2 hj)
          simp at this; exact hne this
        have hlow : ∀ j, j < l.length → (duAt l j).b ≤ 2000 := fun j hj => by
          have := hall j hj
          unfold duOkW at this
          simp only [Bool.and_eq_true] at this
          exact strW_low this.1.1.2
        have hlo : Low l := fun d hd => by
          refine ⟨hl d hd, ?_⟩
          obtain ⟨j, hj, rfl⟩ := List.getElem_of_mem hd
          have := hlow j hj
          rwa [show duAt l j = l[j] by simp [duAt, List.getD, hj]] at this
        have hall' : ∀ j, j < l.length → duOkW srt r' l j = true := fun j hj => by
          have := hall j hj
          unfold duOkW at *
          simp only [Bool.and_eq_true] at *
          obtain ⟨⟨⟨a1, a2⟩, a3⟩, a4⟩ := this
          refine ⟨⟨⟨by rw [he.ppl]; exact a1, a2⟩, a3⟩, brkW_mono_nil srt he h1 hf.rst.2 ?_ ?_ a4⟩
          · intro d hd
            exact hlo d (List.mem_of_mem_take (own_mem.1 hd).1)
          · exact hlo _ (by rw [show duAt l j = l[j] by simp [duAt, List.getD, hj]]; exact List.getElem_mem hj)
        rw [if_pos hok, if_neg g2, if_neg]
        rw [badDuW, idxZ_none _ _ fun j hj => by simp at hj ⊢; exact hall' j hj]
        omega
  · simp at h
theorem chkEW_low {r : Ro} {l : List Du} (hl : ∀ d ∈ l, -9223372036854775808 ≤ d.b) (h : (chkEW srt r l).2 = 0) : Low l := by
  unfold chkEW at *
  split at h
  · split at h
    · simp at h
    · split at h
      · simp at h
      · rename_i g3
        intro d hd
        refine ⟨hl d hd, ?_⟩
        obtain ⟨j, hj, rfl⟩ := List.getElem_of_mem hd
        have hok : duOkW srt r l j = true := by
          apply Classical.byContradiction
          intro hne
          have h0 := idxZ_any (List.range l.length) (fun i => !duOkW srt r l i)
          rw [decide_eq_false (by rw [badDuW] at g3; exact g3)] at h0
          have := (List.any_eq_false.1 h0.symm) j (List.mem_range.2 hj)
          simp at this; exact hne this
        unfold duOkW at hok
        simp only [Bool.and_eq_true] at hok
        have := strW_low hok.1.1.2
        rwa [show duAt l j = l[j] by simp [duAt, List.getD, hj]] at this
  · simp at h
theorem whyW_mono {r r' : Ro} (he : Eas r r') (h1 : 0 ≤ r'.rst) (h2 : r.rst ≤ 2000) {l : List Du} {n : Int} {c : Cl} (hl : Low l) (hc : -9223372036854775808 ≤ c.b ∧ c.b ≤ 2000) {k : Int} (h : k ∈ whyW srt r' l n c) : k ∈ whyW srt r l n c := by
  have hp : pnAt r' n = pnAt r n := by unfold pnAt; rw [he.ppl]
  unfold whyW at *
  rw [hp] at h
  simp only [List.mem_append] at *
  rcases h with h | h
  · exact .inl h
  · exact .inr (brkW_mono srt he h1 h2 (fun d hd => hl d (own_mem.1 hd).1) hc h)
end

/-! one more duty, or two -/
theorem own_other {l : List Du} {d : Du} {n : Int} (h : d.p ≠ n) : own (l ++ [d]) n = own l n := by
  simp [own, List.filter_append, h]
theorem duAt_app {l : List Du} {m : List Du} {i : Nat} (h : i < l.length) : duAt (l ++ m) i = duAt l i := by
  simp [duAt, List.getD, List.getElem?_append_left h]
theorem duOk_app {r : Ro} {l m : List Du} {i : Nat} (h : i < l.length) : duOk r (l ++ m) i = duOk r l i := by
  unfold duOk
  rw [duAt_app h, List.take_append_of_le_length (by omega)]
  cases i with
  | zero => rfl
  | succ i => rw [show i + 1 - 1 = i by omega, duAt_app (by omega)]
theorem Rt.snoc {r : Ro} {l : List Du} {d : Du} (h : Rt r l l.length) (hp : 0 ≤ d.p ∧ d.p ≤ r.ppl.length - 1) (hd : 0 ≤ d.a ∧ d.a < d.b ∧ d.b ≤ 2000) (hl : l = [] ∨ (duAt l (l.length - 1)).a ≤ d.a) (hb : brk r (own l d.p) d = []) : Rt r (l ++ [d]) (l ++ [d]).length := by
  intro i hi
  simp at hi
  by_cases hil : i < l.length
  · rw [duOk_app hil]; exact h i hil
  · have : i = l.length := by omega
    subst this
    have e : duAt (l ++ [d]) l.length = d := by simp [duAt, List.getD]
    unfold duOk
    rw [e, List.take_left' rfl, hb]
    simp only [Bool.and_eq_true]
    refine ⟨⟨⟨decide_eq_true hp, strB_iff.2 hd⟩, ?_⟩, rfl⟩
    rcases hl with hl | hl
    · simp [hl]
    · by_cases h0 : l.length = 0
      · simp [h0]
      · rw [duAt_app (by omega)]
        simp [hl]
end Go.Sx
end
