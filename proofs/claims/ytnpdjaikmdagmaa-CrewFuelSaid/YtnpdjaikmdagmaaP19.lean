/- A part of a proof; no conditions. -/
import Derived.Test.YtnpdjaikmdagmaaP18
import Derived.Test.YtnpdjaikmdagmaaP15
set_option linter.unusedSimpArgs false
set_option linter.unusedVariables false
set_option linter.unusedSectionVars false
section
/- Crew: who may not fly over water: the program's, the reference's. No conditions. -/
set_option linter.unusedSimpArgs false
set_option linter.unusedSectionVars false
set_option maxRecDepth 100000
set_option maxHeartbeats 2000000
namespace Go.Sx
open Go.Proofs
attribute [local irreducible] HLe

noncomputable abbrev E40 : Env := { P := Try.prog, fn := tbl [], own := [], key := 4000, nt := 15 }
theorem b40 : PureBody E40 [] Try.f40 withinS := by
  refine pb ?_
  rintro ⟨n, a, b⟩ _
  simp -dsimp [Try.f40, E40, withinB]
  repeat' (first | omega | (simp -dsimp [E40, ri, cellp, ints, *]) | (refine Also.intro ?_ fun _ => ?_) | (refine Hold.intro fun _ => ?_) | (refine And.intro ?_ ?_))
theorem ok40 : FnOK Try.prog 40 (.pure withinS) := pure_fn (E := E40) rfl LOK.nil (ok := []) (fn := Try.f40) (by kernel_rfl) (by kernel_rfl) (by kernel_rfl) (by kernel_rfl) rfl (fun _ _ => by simp) b40
theorem gue_none {l : List Gu} (h : ∀ j (h : j < l.length), guN l[j] = false) : l.any guN = false := by
  rw [List.any_eq_false]
  intro g hg
  obtain ⟨j, hj, rfl⟩ := List.getElem_of_mem hg
  simp [h j hj]
theorem gue_bad {l : List Gu} {k : Nat} (hk : k < l.length) (h : guN l[k] = true) : l.any guN = true := by
  rw [List.any_eq_true]; exact ⟨_, List.getElem_mem hk, h⟩
noncomputable abbrev E39 : Env := { P := Try.prog, fn := tbl [(40, .pure withinS)], own := [], key := 3900, nt := 32 }
theorem b39 : PureBody E39 [] Try.f39 grS := by
  refine pb ?_
  rintro ⟨l, n⟩ hl
  have hl : l.length ≤ 1000000 := hl
  have hg := gue_of l n
  by_cases hn : n < l.length
  · rw [if_pos hn] at hg
    simp -dsimp [Try.f39, E39]
    repeat' (first | omega | (simp -dsimp [E39, ri, cellp, ints, hl, hn, hg]) | (refine Also.intro ?_ fun _ => ?_) | (refine Hold.intro fun _ => ?_) | (refine And.intro ?_ ?_))
  rw [if_neg hn] at hg
  have hn' : (n < (l.length : Int)) = False := eq_false hn
  simp -dsimp [Try.f39, E39]
  repeat' (first | omega | (simp -dsimp [E39, ri, cellp, ints, hl, hn']) | (refine Also.intro ?_ fun _ => ?_) | (refine Hold.intro fun _ => ?_) | (refine And.intro ?_ ?_))
  refine awp_loop [10, 11, 12, 13, 16, 17, 18, 19, 20, 21, 22, 23, 24, 25, 26, 27, 28, 29, 30, 31, 4, 14, 15, 5] (fun k : { k : Nat // k ≤ l.length ∧ ∀ j (h : j < l.length), j < k → guN l[j] = false } => [(5, (true, .int .i64 k.1))]) (fun _ => noH) (fun k => l.length - k.1) ⟨0, by omega, fun _ _ h => by omega⟩ ?_ (HLe.refl _) ?_
  · simp [okAll, okv]
  rintro ⟨k, hk, hall⟩
  dsimp only
  by_cases hk1 : k < l.length
  · have hki : (k : Int) < l.length := by omega
    have wk : IntKind.wrap .i64 ((k : Int) + 1) = (k + 1 : Nat) := wrap_id (by omega) (by omega)
    obtain ⟨g, hu⟩ : ∃ g, l[k]? = some g := ⟨_, List.getElem?_eq_getElem hk1⟩
    have hu' : l[k] = g := (List.getElem?_eq_some_iff.1 hu).2
    have hD : guN g = (!withinB g.w 1 500 || !withinB g.dive 0 2000) := rfl
    cases h1 : withinB g.w 1 500 <;> rw [h1] at hD
    · have hz := gue_bad hk1 (by rw [hu', hD]; rfl)
      rw [hz, if_pos rfl] at hg
      simp -dsimp [hki]
      repeat' (first | omega | (simp -dsimp [E39, ri, cellp, ints, hki, hk1, hu, hu', h1, hg, Gu.row]) | (refine Also.intro ?_ fun _ => ?_) | (refine Hold.intro fun _ => ?_) | (refine And.intro ?_ ?_))
    · cases h2 : withinB g.dive 0 2000 <;> rw [h2] at hD
      · have hz := gue_bad hk1 (by rw [hu', hD]; rfl)
        rw [hz, if_pos rfl] at hg
        simp -dsimp [hki]
        repeat' (first | omega | (simp -dsimp [E39, ri, cellp, ints, hki, hk1, hu, hu', h1, h2, hg, Gu.row]) | (refine Also.intro ?_ fun _ => ?_) | (refine Hold.intro fun _ => ?_) | (refine And.intro ?_ ?_))
      · simp -dsimp [hki]
        repeat' (first | omega | (simp -dsimp [E39, ri, cellp, ints, hki, hk1, hu, hu', h1, h2, wk, Gu.row]) | (refine Also.intro ?_ fun _ => ?_) | (refine Hold.intro fun _ => ?_) | (refine And.intro ?_ ?_))
        refine ⟨k + 1, tle_chain rfl ?_, HLe.refl _, ⟨by omega, fun j h hj => ?_⟩, by omega⟩
        · simp [okAll, okv]
        · by_cases hjk : j = k
          · subst hjk; rw [hu', hD]; rfl
          · exact hall j h (by omega)
  · have hkn : ¬ (k : Int) < l.length := by omega
    rw [gue_none fun j h => hall j h (by omega), if_neg (by decide)] at hg
    simp -dsimp [hkn]
    repeat' (first | omega | (simp -dsimp [E39, ri, cellp, ints, hkn, hg]) | (refine Also.intro ?_ fun _ => ?_) | (refine Hold.intro fun _ => ?_) | (refine And.intro ?_ ?_))
theorem ok39 : FnOK Try.prog 39 (.pure grS) := pure_fn (E := E39) rfl (.cons ok40 .nil) (ok := []) (fn := Try.f39) (by kernel_rfl) (by kernel_rfl) (by kernel_rfl) (by kernel_rfl) rfl (fun _ _ => by simp) b39

/-! over water -/
def wetB (g : Gu) (t : Int) : Bool := !g.suit || decide (g.dive < t)
def wetTo (l : List Gu) (t : Int) : Nat → List Int
  | 0 => []
  | k + 1 => if wetB (guAt l k) t = true then wetTo l t k ++ [(k : Int)] else wetTo l t k
theorem wetTo_len (l : List Gu) (t : Int) : ∀ k, (wetTo l t k).length ≤ k
  | 0 => by simp [wetTo]
  | k + 1 => by
    have ih := wetTo_len l t k
    rw [wetTo]
    split
    · simp; omega
    · omega
def wetO (l : List Gu) (t : Int) : List Int × Int := if gueE l 8 = 0 then (if withinB t 0 2000 = true then (wetTo l t l.length, 0) else ([], 1)) else ([], gueE l 8)
noncomputable abbrev wetS : PSpec := mkP grE (fun d => d.1.length ≤ 1000000) fun d => .tup [ints (wetO d.1 d.2).1, .int .i64 (wetO d.1 d.2).2]
noncomputable abbrev E10 : Env := { P := Try.prog, fn := tbl [(37, .pure grS), (38, .pure timeS)], own := [], key := 1000, nt := 39 }
theorem b10 : PureBody E10 [] Try.f10 wetS := by
  refine pb ?_
  rintro ⟨l, t⟩ hl
  have hl : l.length ≤ 1000000 := hl
  have hK : wetO l t = if gueE l 8 = 0 then (if withinB t 0 2000 = true then (wetTo l t l.length, 0) else ([], 1)) else ([], gueE l 8) := rfl
  by_cases h0 : gueE l 8 = 0
  case neg =>
    rw [if_neg h0] at hK
    have h0' : (gueE l 8 = 0) = False := eq_false h0
    simp -dsimp [Try.f10, E10]
    repeat' (first | omega | (simp -dsimp [E10, ri, cellp, ints, hl, grE_dec, h0', hK]) | (refine Also.intro ?_ fun _ => ?_) | (refine Hold.intro fun _ => ?_) | (refine And.intro ?_ ?_))
  rw [if_pos h0] at hK
  cases h1 : withinB t 0 2000 <;> rw [h1] at hK
  · have hK : wetO l t = ([], 1) := hK
    simp -dsimp [Try.f10, E10]
    repeat' (first | omega | (simp -dsimp [E10, ri, cellp, ints, hl, grE_dec, h0, h1, hK]) | (refine Also.intro ?_ fun _ => ?_) | (refine Hold.intro fun _ => ?_) | (refine And.intro ?_ ?_))
  have hK : wetO l t = (wetTo l t l.length, 0) := hK
  simp -dsimp [Try.f10, E10]
  repeat' (first | omega | (simp -dsimp [E10, ri, cellp, ints, hl, grE_dec, h0, h1]) | (refine Also.intro ?_ fun _ => ?_) | (refine Hold.intro fun _ => ?_) | (refine And.intro ?_ ?_))
  refine awp_loop_g [(4, 1036, 1, 3)] rfl (by simp) [20, 21, 22, 23, 8, 7, 24, 25, 26, 27, 28, 29, 30, 31, 32, 33, 34, 35, 36, 4, 37, 19] (fun k : { k : Nat // k ≤ l.length } => [(19, (true, .int .i64 k.1)), (4, (true, .bsl 1036 0 (wetTo l t k.1).length))]) (fun k => hps [(1036, { base := 0, blks := [{ z := 1, els := (wetTo l t k.1).map ri, ty := 3 }] }), (1008, { base := k.1, blks := [] })] noH) (fun k => l.length - k.1) ⟨0, by omega⟩ ?_ ?_ ?_
  · simp [okAll, okv, wetTo]
  · exact (by (try simp -dsimp only [hpush_noH, hpush_hps, hps_over]); refine hle_hps ?_; simp -dsimp [allK, wetTo]; repeat' (first | (refine And.intro ?_ ?_) | (refine sLe.same ?_ ?_ <;> (simp; done)) | (refine sLe.clear ?_ ?_ <;> (first | (simp; done) | (simp; omega))) | (refine sLe.drop 1 ?_ ?_ ?_ <;> (simp; done))))
  rintro ⟨k, hk⟩
  dsimp only
  have hwl := wetTo_len l t k
  by_cases hk1 : k < l.length
  · have hki : (k : Int) < l.length := by omega
    have wk : IntKind.wrap .i64 ((k : Int) + 1) = (k + 1 : Nat) := wrap_id (by omega) (by omega)
    obtain ⟨g, hu⟩ : ∃ g, l[k]? = some g := ⟨_, List.getElem?_eq_getElem hk1⟩
    have hu' : l[k] = g := (List.getElem?_eq_some_iff.1 hu).2
    have hS : wetTo l t (k + 1) = if wetB g t = true then wetTo l t k ++ [(k : Int)] else wetTo l t k := by rw [wetTo, show guAt l k = g by simp [guAt, List.getD, hu]]
    have hb8 : ((wetTo l t k).length + 1) * 8 ≤ 140737488355328 := by omega
    have hD : wetB g t = (!g.suit || decide (g.dive < t)) := rfl
    cases h2 : g.suit <;> rw [h2] at hD
    · rw [if_pos (by rw [hD]; rfl)] at hS
      simp -dsimp [hki]
      repeat' (first | omega | (simp -dsimp [E10, ri, cellp, ints, hki, hk1, hu, hu', h2, wk, hb8, Gu.row]) | (refine Also.intro ?_ fun _ => ?_) | (refine Hold.intro fun _ => ?_) | (refine And.intro ?_ ?_))
      refine ⟨k + 1, tle_chain rfl ?_, ?_, by omega, by omega⟩
      · simp [okAll, okv, hS]
      · rw [hS]; exact (by (try simp -dsimp only [hpush_noH, hpush_hps, hps_over]); refine hle_hps ?_; simp -dsimp [allK, ri]; repeat' (first | (refine And.intro ?_ ?_) | (refine sLe.same ?_ ?_ <;> (simp; done)) | (refine sLe.clear ?_ ?_ <;> (first | (simp; done) | (simp; omega))) | (refine sLe.drop 1 ?_ ?_ ?_ <;> (simp; done))))
    · by_cases h3 : g.dive < t
      · rw [if_pos (by rw [hD, decide_eq_true h3]; rfl)] at hS
        simp -dsimp [hki]
        repeat' (first | omega | (simp -dsimp [E10, ri, cellp, ints, hki, hk1, hu, hu', h2, h3, wk, hb8, Gu.row]) | (refine Also.intro ?_ fun _ => ?_) | (refine Hold.intro fun _ => ?_) | (refine And.intro ?_ ?_))
        refine ⟨k + 1, tle_chain rfl ?_, ?_, by omega, by omega⟩
        · simp [okAll, okv, hS]
        · rw [hS]; exact (by (try simp -dsimp only [hpush_noH, hpush_hps, hps_over]); refine hle_hps ?_; simp -dsimp [allK, ri]; repeat' (first | (refine And.intro ?_ ?_) | (refine sLe.same ?_ ?_ <;> (simp; done)) | (refine sLe.clear ?_ ?_ <;> (first | (simp; done) | (simp; omega))) | (refine sLe.drop 1 ?_ ?_ ?_ <;> (simp; done))))
      · rw [if_neg (by rw [hD, decide_eq_false h3]; decide)] at hS
        have h3' : (g.dive < t) = False := eq_false h3
        simp -dsimp [hki]
        repeat' (first | omega | (simp -dsimp [E10, ri, cellp, ints, hki, hk1, hu, hu', h2, h3', wk, Gu.row]) | (refine Also.intro ?_ fun _ => ?_) | (refine Hold.intro fun _ => ?_) | (refine And.intro ?_ ?_))
        refine ⟨k + 1, tle_chain rfl ?_, ?_, by omega, by omega⟩
        · simp [okAll, okv, hS]
        · rw [hS]; exact (by (try simp -dsimp only [hpush_noH, hpush_hps, hps_over]); refine hle_hps ?_; simp -dsimp [allK, ri]; repeat' (first | (refine And.intro ?_ ?_) | (refine sLe.same ?_ ?_ <;> (simp; done)) | (refine sLe.clear ?_ ?_ <;> (first | (simp; done) | (simp; omega))) | (refine sLe.drop 1 ?_ ?_ ?_ <;> (simp; done))))
  · have hkn : ¬ (k : Int) < l.length := by omega
    have hke : k = l.length := by omega
    subst hke
    simp -dsimp [hkn]
    repeat' (first | omega | (simp -dsimp [E10, ri, cellp, ints, hkn, hK]) | (refine Also.intro ?_ fun _ => ?_) | (refine Hold.intro fun _ => ?_) | (refine And.intro ?_ ?_))
theorem ok10 : FnOK Try.prog 10 (.pure wetS) := pure_fn (E := E10) rfl (.cons ok37 (.cons ok38 .nil)) (ok := []) (fn := Try.f10) (by kernel_rfl) (by kernel_rfl) (by kernel_rfl) (by kernel_rfl) rfl (fun _ _ => by simp) b10
noncomputable abbrev E12 : Env := { P := Try.prog, fn := tbl [(39, .pure grS), (40, .pure withinS)], own := [], key := 1200, nt := 43 }
theorem b12 : PureBody E12 [] Try.f12 wetS := by
  refine pb ?_
  rintro ⟨l, t⟩ hl
  have hl : l.length ≤ 1000000 := hl
  have hK : wetO l t = if gueE l 8 = 0 then (if withinB t 0 2000 = true then (wetTo l t l.length, 0) else ([], 1)) else ([], gueE l 8) := rfl
  by_cases h0 : gueE l 8 = 0
  case neg =>
    rw [if_neg h0] at hK
    have h0' : (gueE l 8 = 0) = False := eq_false h0
    simp -dsimp [Try.f12, E12]
    repeat' (first | omega | (simp -dsimp [E12, ri, cellp, ints, hl, grE_dec, h0', hK]) | (refine Also.intro ?_ fun _ => ?_) | (refine Hold.intro fun _ => ?_) | (refine And.intro ?_ ?_))
  rw [if_pos h0] at hK
  cases h1 : withinB t 0 2000 <;> rw [h1] at hK
  · have hK : wetO l t = ([], 1) := hK
    simp -dsimp [Try.f12, E12]
    repeat' (first | omega | (simp -dsimp [E12, ri, cellp, ints, hl, grE_dec, h0, h1, hK]) | (refine Also.intro ?_ fun _ => ?_) | (refine Hold.intro fun _ => ?_) | (refine And.intro ?_ ?_))
  have hK : wetO l t = (wetTo l t l.length, 0) := hK
  simp -dsimp [Try.f12, E12]
  repeat' (first | omega | (simp -dsimp [E12, ri, cellp, ints, hl, grE_dec, h0, h1]) | (refine Also.intro ?_ fun _ => ?_) | (refine Hold.intro fun _ => ?_) | (refine And.intro ?_ ?_))
  refine awp_loop_g [(7, 1241, 1, 3)] rfl (by simp) [17, 18, 19, 20, 23, 24, 25, 26, 27, 28, 29, 30, 31, 32, 33, 34, 35, 36, 37, 38, 39, 40, 41, 7, 21, 22, 8] (fun k : { k : Nat // k ≤ l.length } => [(8, (true, .int .i64 k.1)), (7, (true, .bsl 1241 0 (wetTo l t k.1).length))]) (fun k => hps [(1241, { base := 0, blks := [{ z := 1, els := (wetTo l t k.1).map ri, ty := 3 }] })] noH) (fun k => l.length - k.1) ⟨0, by omega⟩ ?_ ?_ ?_
  · simp [okAll, okv, wetTo]
  · exact (by (try simp -dsimp only [hpush_noH, hpush_hps, hps_over]); refine hle_hps ?_; simp -dsimp [allK, wetTo]; repeat' (first | (refine And.intro ?_ ?_) | (refine sLe.same ?_ ?_ <;> (simp; done)) | (refine sLe.clear ?_ ?_ <;> (first | (simp; done) | (simp; omega))) | (refine sLe.drop 1 ?_ ?_ ?_ <;> (simp; done))))
  rintro ⟨k, hk⟩
  dsimp only
  have hwl := wetTo_len l t k
  by_cases hk1 : k < l.length
  · have hki : (k : Int) < l.length := by omega
    have wk : IntKind.wrap .i64 ((k : Int) + 1) = (k + 1 : Nat) := wrap_id (by omega) (by omega)
    obtain ⟨g, hu⟩ : ∃ g, l[k]? = some g := ⟨_, List.getElem?_eq_getElem hk1⟩
    have hu' : l[k] = g := (List.getElem?_eq_some_iff.1 hu).2
    have hS : wetTo l t (k + 1) = if wetB g t = true then wetTo l t k ++ [(k : Int)] else wetTo l t k := by rw [wetTo, show guAt l k = g by simp [guAt, List.getD, hu]]
    have hb8 : ((wetTo l t k).length + 1) * 8 ≤ 140737488355328 := by omega
    have hD : wetB g t = (!g.suit || decide (g.dive < t)) := rfl
    cases h2 : g.suit <;> rw [h2] at hD
    · rw [if_pos (by rw [hD]; rfl)] at hS
      simp -dsimp [hki]
      repeat' (first | omega | (simp -dsimp [E12, ri, cellp, ints, hki, hk1, hu, hu', h2, wk, hb8, Gu.row]) | (refine Also.intro ?_ fun _ => ?_) | (refine Hold.intro fun _ => ?_) | (refine And.intro ?_ ?_))
      refine ⟨k + 1, tle_chain rfl ?_, ?_, by omega, by omega⟩
      · simp [okAll, okv, hS]
      · rw [hS]; exact (by (try simp -dsimp only [hpush_noH, hpush_hps, hps_over]); refine hle_hps ?_; simp -dsimp [allK, ri]; repeat' (first | (refine And.intro ?_ ?_) | (refine sLe.same ?_ ?_ <;> (simp; done)) | (refine sLe.clear ?_ ?_ <;> (first | (simp; done) | (simp; omega))) | (refine sLe.drop 1 ?_ ?_ ?_ <;> (simp; done))))
    · by_cases h3 : g.dive < t
      · rw [if_pos (by rw [hD, decide_eq_true h3]; rfl)] at hS
        simp -dsimp [hki]
        repeat' (first | omega | (simp -dsimp [E12, ri, cellp, ints, hki, hk1, hu, hu', h2, h3, wk, hb8, Gu.row]) | (refine Also.intro ?_ fun _ => ?_) | (refine Hold.intro fun _ => ?_) | (refine And.intro ?_ ?_))
        refine ⟨k + 1, tle_chain rfl ?_, ?_, by omega, by omega⟩
        · simp [okAll, okv, hS]
        · rw [hS]; exact (by (try simp -dsimp only [hpush_noH, hpush_hps, hps_over]); refine hle_hps ?_; simp -dsimp [allK, ri]; repeat' (first | (refine And.intro ?_ ?_) | (refine sLe.same ?_ ?_ <;> (simp; done)) | (refine sLe.clear ?_ ?_ <;> (first | (simp; done) | (simp; omega))) | (refine sLe.drop 1 ?_ ?_ ?_ <;> (simp; done))))
      · rw [if_neg (by rw [hD, decide_eq_false h3]; decide)] at hS
        have h3' : (g.dive < t) = False := eq_false h3
        simp -dsimp [hki]
        repeat' (first | omega | (simp -dsimp [E12, ri, cellp, ints, hki, hk1, hu, hu', h2, h3', wk, Gu.row]) | (refine Also.intro ?_ fun _ => ?_) | (refine Hold.intro fun _ => ?_) | (refine And.intro ?_ ?_))
        refine ⟨k + 1, tle_chain rfl ?_, ?_, by omega, by omega⟩
        · simp [okAll, okv, hS]
        · rw [hS]; exact (by (try simp -dsimp only [hpush_noH, hpush_hps, hps_over]); refine hle_hps ?_; simp -dsimp [allK, ri]; repeat' (first | (refine And.intro ?_ ?_) | (refine sLe.same ?_ ?_ <;> (simp; done)) | (refine sLe.clear ?_ ?_ <;> (first | (simp; done) | (simp; omega))) | (refine sLe.drop 1 ?_ ?_ ?_ <;> (simp; done))))
  · have hkn : ¬ (k : Int) < l.length := by omega
    have hke : k = l.length := by omega
    subst hke
    simp -dsimp [hkn]
    repeat' (first | omega | (simp -dsimp [E12, ri, cellp, ints, hkn, hK]) | (refine Also.intro ?_ fun _ => ?_) | (refine Hold.intro fun _ => ?_) | (refine And.intro ?_ ?_))
theorem ok12 : FnOK Try.prog 12 (.pure wetS) := pure_fn (E := E12) rfl (.cons ok39 (.cons ok40 .nil)) (ok := []) (fn := Try.f12) (by kernel_rfl) (by kernel_rfl) (by kernel_rfl) (by kernel_rfl) rfl (fun _ _ => by simp) b12
end Go.Sx
end
section
/- Crew: what is loaded; the reference's cabins, seatings, centers. No conditions. -/
set_option linter.unusedSimpArgs false
set_option linter.unusedSectionVars false
set_option maxRecDepth 100000
set_option maxHeartbeats 2000000
namespace Go.Sx
open Go.Proofs
attribute [local irreducible] HLe

/-! the reference's checks -/
noncomputable abbrev E89 : Env := { P := Try.prog, fn := tbl [], own := [], key := 8900, nt := 15 }
theorem b89 : PureBody E89 [] Try.f89 withinS := by
  refine pb ?_
  rintro ⟨n, a, b⟩ _
  simp -dsimp [Try.f89, E89, withinB]
  repeat' (first | omega | (simp -dsimp [E89, ri, cellp, ints, *]) | (refine Also.intro ?_ fun _ => ?_) | (refine Hold.intro fun _ => ?_) | (refine And.intro ?_ ?_))
theorem ok89 : FnOK Try.prog 89 (.pure withinS) := pure_fn (E := E89) rfl LOK.nil (ok := []) (fn := Try.f89) (by kernel_rfl) (by kernel_rfl) (by kernel_rfl) (by kernel_rfl) rfl (fun _ _ => by simp) b89
noncomputable abbrev E59 : Env := { P := Try.prog, fn := tbl [(89, .pure withinS)], own := [], key := 5900, nt := 13 }
theorem b59 : PureBody E59 [] Try.f59 spvS := by
  refine pb ?_
  rintro f _
  have hN : (!spN f) = (withinB f.lo (-1000000) 1000000 && withinB f.hi f.lo 1000000) := by
    rw [spN, Bool.not_not, withinB, withinB, withinB, ← Bool.decide_and, ← Bool.decide_and]
    congr 1
    apply propext
    omega
  generalize h1 : withinB f.lo (-1000000) 1000000 = b1 at hN
  generalize h2 : withinB f.hi f.lo 1000000 = b2 at hN
  generalize spN f = b at hN
  cases b1 <;> cases b2 <;> cases b
  all_goals first | (exact absurd hN (by decide)) | skip
  all_goals
    clear hN
    simp -dsimp [Try.f59, E59, Sp.row]
    repeat' (first | omega | (simp -dsimp [E59, ri, cellp, ints, Sp.row, h1, h2]) | (refine Also.intro ?_ fun _ => ?_) | (refine Hold.intro fun _ => ?_) | (refine And.intro ?_ ?_))
theorem ok59 : FnOK Try.prog 59 (.pure spvS) := pure_fn (E := E59) rfl (.cons ok89 .nil) (ok := []) (fn := Try.f59) (by kernel_rfl) (by kernel_rfl) (by kernel_rfl) (by kernel_rfl) rfl (fun _ _ => by simp) b59
abbrev armBS : PSpec := int1S armB
theorem armB_w (n : Int) : armB n = withinB n (-1000) 1000 := rfl
noncomputable abbrev E88 : Env := { P := Try.prog, fn := tbl [(40, .pure withinS)], own := [], key := 8800, nt := 5 }
theorem b88 : PureBody E88 [] Try.f88 armBS := by
  refine pb ?_
  rintro n _
  simp -dsimp [Try.f88, E88, armB_w]
  repeat' (first | omega | (simp -dsimp [E88, ri, cellp, ints, armB_w]) | (refine Also.intro ?_ fun _ => ?_) | (refine Hold.intro fun _ => ?_) | (refine And.intro ?_ ?_))
theorem ok88 : FnOK Try.prog 88 (.pure armBS) := pure_fn (E := E88) rfl (.cons ok40 .nil) (ok := []) (fn := Try.f88) (by kernel_rfl) (by kernel_rfl) (by kernel_rfl) (by kernel_rfl) rfl (fun _ _ => by simp) b88
theorem ca_ok2 (c : Ca) : c.ok = (withinB c.emp 1 100000 && decide (c.st.length ≤ 8) && decide (c.low ≤ c.high) && armB c.arm && armB c.farm && armB c.low && armB c.high && c.st.all fun s => armB s.arm) := rfl
noncomputable abbrev E58 : Env := { P := Try.prog, fn := tbl [(40, .pure withinS), (88, .pure armBS)], own := [], key := 5800, nt := 60 }
theorem b58 : PureBody E58 [] Try.f58 cabS := by
  refine pb ?_
  rintro c hl
  have hl : c.st.length ≤ 900000 := hl
  have hr := ca_ok2 c
  generalize h1 : withinB c.emp 1 100000 = b1 at hr
  generalize h2 : armB c.arm = b2 at hr
  generalize h3 : armB c.farm = b3 at hr
  generalize h4 : armB c.low = b4 at hr
  generalize h5 : armB c.high = b5 at hr
  by_cases hall : ((((((b1 = true ∧ c.st.length ≤ 8) ∧ b2 = true) ∧ b3 = true) ∧ b4 = true) ∧ b5 = true) ∧ c.low ≤ c.high)
  case neg =>
    have hz : c.ok = false := by
      rw [Bool.eq_false_iff]
      intro h
      rw [hr] at h
      simp only [Bool.and_eq_true, decide_eq_true_eq] at h
      obtain ⟨⟨⟨⟨⟨⟨⟨x1, x2⟩, x3⟩, x4⟩, x5⟩, x6⟩, x7⟩, _⟩ := h
      exact hall ⟨⟨⟨⟨⟨⟨x1, x2⟩, x4⟩, x5⟩, x6⟩, x7⟩, x3⟩
    simp -dsimp [Try.f58, E58, Ca.row]
    repeat' (first | omega | (simp -dsimp [E58, ri, cellp, ints, Ca.row, h1, h2, h3, h4, h5, hz]) | (refine Also.intro ?_ fun _ => ?_) | (refine Hold.intro fun _ => ?_) | (refine And.intro ?_ ?_))
    rename_i h
    exact absurd (show ((((((b1 = true ∧ c.st.length ≤ 8) ∧ b2 = true) ∧ b3 = true) ∧ b4 = true) ∧ b5 = true) ∧ c.low ≤ c.high) by
      obtain ⟨⟨⟨⟨⟨⟨x1, x2⟩, x4⟩, x5⟩, x6⟩, x7⟩, x3⟩ := h
      exact ⟨⟨⟨⟨⟨⟨x1, by omega⟩, x4⟩, x5⟩, x6⟩, x7⟩, x3⟩) hall
  obtain ⟨⟨⟨⟨⟨⟨rfl, x2⟩, rfl⟩, rfl⟩, rfl⟩, rfl⟩, x3⟩ := hall
  have x2' : ((8 : Int) < c.st.length) = False := eq_false (by omega)
  have x3' : (c.high < c.low) = False := eq_false (by omega)
  rw [decide_eq_true x2, decide_eq_true x3] at hr
  simp only [Bool.true_and, Bool.and_true] at hr
  simp -dsimp [Try.f58, E58, Ca.row]
  repeat' (first | omega | (simp -dsimp [E58, ri, cellp, ints, Ca.row, h1, h2, h3, h4, h5, x2', x3']) | (refine Also.intro ?_ fun _ => ?_) | (refine Hold.intro fun _ => ?_) | (refine And.intro ?_ ?_))
  refine awp_loop [45, 46, 47, 48, 49, 52, 53, 54, 55, 56, 57, 58, 59, 2, 50, 51, 3] (fun k : { k : Nat // k ≤ c.st.length ∧ ∀ j (h : j < c.st.length), j < k → armB c.st[j].arm = true } => [(3, (true, .int .i64 k.1))]) (fun k => hps [(5801, { base := 0, blks := [{ z := 6, els := [c.row], ty := 49 }] })] noH) (fun k => c.st.length - k.1) ⟨0, by omega, fun _ _ h => by omega⟩ ?_ ?_ ?_
  · simp [okAll, okv]
  · exact (by (try simp -dsimp only [hpush_noH, hpush_hps, hps_over]); refine hle_hps ?_; simp -dsimp [allK, Ca.row]; repeat' (first | (refine And.intro ?_ ?_) | (refine sLe.same ?_ ?_ <;> (simp; done)) | (refine sLe.clear ?_ ?_ <;> (first | (simp; done) | (simp; omega))) | (refine sLe.drop 1 ?_ ?_ ?_ <;> (simp; done))))
  rintro ⟨k, hk, hal⟩
  dsimp only
  by_cases hk1 : k < c.st.length
  · have hki : (k : Int) < c.st.length := by omega
    have wk : IntKind.wrap .i64 ((k : Int) + 1) = (k + 1 : Nat) := wrap_id (by omega) (by omega)
    obtain ⟨s, hs⟩ : ∃ s, c.st[k]? = some s := ⟨_, List.getElem?_eq_getElem hk1⟩
    have hs' : c.st[k] = s := (List.getElem?_eq_some_iff.1 hs).2
    cases g1 : armB s.arm
    · have hz : c.ok = false := by
        rw [hr, List.all_eq_false]; exact ⟨s, by rw [← hs']; exact List.getElem_mem hk1, by simp [g1]⟩
      simp -dsimp [hki]
      repeat' (first | omega | (simp -dsimp [E58, ri, cellp, ints, Ca.row, Se.row, hki, hk1, hs, hs', g1, hz]) | (refine Also.intro ?_ fun _ => ?_) | (refine Hold.intro fun _ => ?_) | (refine And.intro ?_ ?_))
    · simp -dsimp [hki]
      repeat' (first | omega | (simp -dsimp [E58, ri, cellp, ints, Ca.row, Se.row, hki, hk1, hs, hs', g1, wk]) | (refine Also.intro ?_ fun _ => ?_) | (refine Hold.intro fun _ => ?_) | (refine And.intro ?_ ?_))
      refine ⟨k + 1, tle_chain rfl ?_, HLe.refl _, ⟨by omega, fun j h hj => ?_⟩, by omega⟩
      · simp [okAll, okv]
      · by_cases hjk : j = k
        · subst hjk; rw [hs', g1]
        · exact hal j h (by omega)
  · have hkn : ¬ (k : Int) < c.st.length := by omega
    have hz : c.ok = true := by
      rw [hr, List.all_eq_true]
      intro p hp
      obtain ⟨j, hj, rfl⟩ := List.getElem_of_mem hp
      exact hal j hj (by omega)
    simp -dsimp [hkn]
    repeat' (first | omega | (simp -dsimp [E58, ri, cellp, ints, Ca.row, hkn, hz]) | (refine Also.intro ?_ fun _ => ?_) | (refine Hold.intro fun _ => ?_) | (refine And.intro ?_ ?_))
theorem ok58 : FnOK Try.prog 58 (.pure cabS) := pure_fn (E := E58) rfl (.cons ok40 (.cons ok88 .nil)) (ok := []) (fn := Try.f58) (by kernel_rfl) (by kernel_rfl) (by kernel_rfl) (by kernel_rfl) rfl (fun _ _ => by simp) b58
noncomputable abbrev E27 : Env := { P := Try.prog, fn := tbl [(58, .pure cabS), (39, .pure grS), (59, .pure spvS)], own := [], key := 2700, nt := 34 }
theorem b27 : PureBody E27 [] Try.f27 lodS := by
  refine pb ?_
  rintro ⟨c, l, f⟩ ⟨hc, hl⟩
  simp only at hc hl
  have hK : lodE c l f = if c.ok = true then (if gueE l c.st.length = 0 then spnE f else gueE l c.st.length) else 102 := rfl
  have hS := spn_of f
  by_cases h1 : c.ok = true
  · rw [if_pos h1] at hK
    by_cases h2 : gueE l c.st.length = 0
    · rw [if_pos h2] at hK
      rw [hS] at hK
      generalize h3 : spN f = b at hK
      cases b
      · simp -dsimp [Try.f27, E27, Sp.row, Ca.row]
        repeat' (first | omega | (simp -dsimp [E27, ri, cellp, ints, Sp.row, Ca.row, caE_dec, grE_dec, spE_dec, hc, hl, h1, h2, h3]) | (refine Also.intro ?_ fun _ => ?_) | (refine Hold.intro fun _ => ?_) | (refine And.intro ?_ ?_))
        all_goals
          rename_i h
          rw [hK]
          first
            | rw [if_neg (by rintro (h' | h' | h') <;> first | (cases h'; done) | omega)]
            | rw [if_pos (by first | exact .inr (.inl h) | exact .inr (.inr h) | exact .inr h)]
      · simp -dsimp [Try.f27, E27, Sp.row, Ca.row]
        repeat' (first | omega | (simp -dsimp [E27, ri, cellp, ints, Sp.row, Ca.row, caE_dec, grE_dec, spE_dec, hc, hl, h1, h2, h3, hK]) | (refine Also.intro ?_ fun _ => ?_) | (refine Hold.intro fun _ => ?_) | (refine And.intro ?_ ?_))
    · rw [if_neg h2] at hK
      simp -dsimp [Try.f27, E27, Sp.row, Ca.row]
      repeat' (first | omega | (simp -dsimp [E27, ri, cellp, ints, Sp.row, Ca.row, caE_dec, grE_dec, hc, hl, h1, h2, hK]) | (refine Also.intro ?_ fun _ => ?_) | (refine Hold.intro fun _ => ?_) | (refine And.intro ?_ ?_))
  · rw [if_neg h1] at hK
    simp -dsimp [Try.f27, E27, Sp.row, Ca.row]
    repeat' (first | omega | (simp -dsimp [E27, ri, cellp, ints, Sp.row, Ca.row, caE_dec, hc, hl, h1, hK]) | (refine Also.intro ?_ fun _ => ?_) | (refine Hold.intro fun _ => ?_) | (refine And.intro ?_ ?_))
theorem ok27 : FnOK Try.prog 27 (.pure lodS) := pure_fn (E := E27) rfl (.cons ok58 (.cons ok39 (.cons ok59 .nil))) (ok := []) (fn := Try.f27) (by kernel_rfl) (by kernel_rfl) (by kernel_rfl) (by kernel_rfl) rfl (fun _ _ => by simp) b27
end Go.Sx
end
section
/- Crew: what is loaded; the reference's seatings, centers. No conditions. -/
set_option linter.unusedSimpArgs false
set_option linter.unusedSectionVars false
set_option maxRecDepth 100000
set_option maxHeartbeats 2000000
namespace Go.Sx
open Go.Proofs
attribute [local irreducible] HLe

/-! a seating -/
theorem take_con {s : List Int} {i : Nat} {x : Int} (h : ∀ k, k < i → s.getD k 0 ≠ x) (hi : i ≤ s.length) : (s.take i).contains x = false := by
  rw [List.contains_eq_any_beq, List.any_eq_false]
  intro y hy
  obtain ⟨k, hk, rfl⟩ := List.getElem_of_mem hy
  have hk' : k < i := by rw [List.length_take] at hk; omega
  have := h k hk'
  have e : s.getD k 0 = s[k]'(by omega) := by simp [List.getD, show k < s.length by omega]
  rw [e] at this
  simp only [List.getElem_take, beq_iff_eq]
  exact fun h => this h.symm
theorem take_con2 {s : List Int} {i k : Nat} {x : Int} (hk : k < i) (hi : i ≤ s.length) (h : s.getD k 0 = x) : (s.take i).contains x = true := by
  rw [List.contains_eq_any_beq, List.any_eq_true]
  have e : s.getD k 0 = s[k]'(by omega) := by simp [List.getD, show k < s.length by omega]
  refine ⟨x, ?_, by simp⟩
  rw [← h, e]
  exact List.mem_take_iff_getElem.2 ⟨k, by omega, rfl⟩
noncomputable abbrev E64 : Env := { P := Try.prog, fn := tbl [(40, .pure withinS)], own := [], key := 6400, nt := 63 }
theorem b64 : PureBody E64 [] Try.f64 rightS := by
  refine pb ?_
  rintro ⟨c, l, s⟩ ⟨hc, hl, hs⟩
  simp only at hc hl hs
  by_cases h0 : s.length = l.length
  case neg =>
    have h0' : ((s.length : Int) = l.length) = False := eq_false (by omega)
    have hz := right_no (c := c) h0
    simp -dsimp [Try.f64, E64, Ca.row]
    repeat' (first | omega | (simp -dsimp [E64, ri, cellp, ints, Ca.row, h0', hz]) | (refine Also.intro ?_ fun _ => ?_) | (refine Hold.intro fun _ => ?_) | (refine And.intro ?_ ?_))
  have h0' : ((s.length : Int) = l.length) = True := eq_true (by omega)
  have hwp : IntKind.wrap .i64 ((c.st.length : Int) - 1) = c.st.length - 1 := wrap_id (by omega) (by omega)
  simp -dsimp [Try.f64, E64, Ca.row]
  repeat' (first | omega | (simp -dsimp [E64, ri, cellp, ints, Ca.row, h0']) | (refine Also.intro ?_ fun _ => ?_) | (refine Hold.intro fun _ => ?_) | (refine And.intro ?_ ?_))
  refine awp_loop [14, 15, 16, 17, 20, 21, 22, 23, 24, 25, 26, 27, 28, 29, 30, 31, 32, 33, 34, 35, 36, 37, 38, 39, 40, 41, 42, 43, 44, 45, 46, 47, 48, 6, 8, 49, 50, 51, 54, 55, 56, 57, 58, 59, 60, 61, 62, 52, 53, 18, 19, 7] (fun k : { k : Nat // k ≤ l.length ∧ ∀ j, j < k → seatOk c l s j = true } => [(7, (true, .int .i64 k.1))]) (fun _ => hps [(6403, { base := 0, blks := [{ z := 6, els := [c.row], ty := 49 }] })] noH) (fun k => l.length - k.1) ⟨0, by omega, fun _ h => by omega⟩ ?_ ?_ ?_
  · simp [okAll, okv]
  · exact (by (try simp -dsimp only [hpush_noH, hpush_hps, hps_over]); refine hle_hps ?_; simp -dsimp [allK, Ca.row]; repeat' (first | (refine And.intro ?_ ?_) | (refine sLe.same ?_ ?_ <;> (simp; done)) | (refine sLe.clear ?_ ?_ <;> (first | (simp; done) | (simp; omega))) | (refine sLe.drop 1 ?_ ?_ ?_ <;> (simp; done))))
  rintro ⟨i, hi, hall⟩
  dsimp only
  by_cases hi1 : i < l.length
  case neg =>
    have hkn : ¬ (i : Int) < l.length := by omega
    have hz := right_ok (c := c) h0 fun j hj => hall j (by omega)
    simp -dsimp [hkn]
    repeat' (first | omega | (simp -dsimp [E64, ri, cellp, ints, Ca.row, hkn, hz]) | (refine Also.intro ?_ fun _ => ?_) | (refine Hold.intro fun _ => ?_) | (refine And.intro ?_ ?_))
  have hii : (i : Int) < l.length := by omega
  have his : i < s.length := by omega
  have hisi : (i : Int) < s.length := by omega
  have wi : IntKind.wrap .i64 ((i : Int) + 1) = (i + 1 : Nat) := wrap_id (by omega) (by omega)
  obtain ⟨x, hx⟩ : ∃ x, s[i]? = some x := ⟨_, List.getElem?_eq_getElem his⟩
  have hx' : s[i] = x := (List.getElem?_eq_some_iff.1 hx).2
  have hxd : s.getD i 0 = x := by simp [List.getD, hx]
  obtain ⟨g, hg⟩ : ∃ g, l[i]? = some g := ⟨_, List.getElem?_eq_getElem hi1⟩
  have hg' : l[i] = g := (List.getElem?_eq_some_iff.1 hg).2
  have hga : guAt l i = g := by simp [guAt, List.getD, hg]
  have hok : seatOk c l s i = (withinB x 0 (c.st.length - 1) && !(s.take i).contains x && (g.able || !(c.st.getD x.toNat default).ex)) := by
    rw [seatOk, hxd, hga]; rfl
  cases h1 : withinB x 0 (c.st.length - 1) <;> rw [h1] at hok
  · have hz := right_bad hi1 hok
    simp -dsimp [hii]
    repeat' (first | omega | (simp -dsimp [E64, ri, cellp, ints, Ca.row, hii, hi1, his, hisi, hx, hx', hwp, h1, hz]) | (refine Also.intro ?_ fun _ => ?_) | (refine Hold.intro fun _ => ?_) | (refine And.intro ?_ ?_))
  have hn : 0 ≤ x ∧ x ≤ c.st.length - 1 := by simpa [withinB] using h1
  obtain ⟨q, rfl⟩ : ∃ q : Nat, x = q := ⟨x.toNat, by omega⟩
  have hq : q < c.st.length := by omega
  have hqi : (q : Int) < c.st.length := by omega
  obtain ⟨v, hv⟩ : ∃ v, c.st[q]? = some v := ⟨_, List.getElem?_eq_getElem hq⟩
  have hv' : c.st[q] = v := (List.getElem?_eq_some_iff.1 hv).2
  have hvd : c.st.getD (q : Int).toNat default = v := by simp [List.getD, hv]
  rw [hvd, Bool.true_and] at hok
  by_cases hab : v.ex = true ∧ g.able = false
  · have hz := right_bad hi1 (by rw [hok, hab.1, hab.2]; simp)
    have ha1 := hab.1
    have ha2 := hab.2
    simp -dsimp [hii]
    repeat' (first | omega | (simp -dsimp [E64, ri, cellp, ints, Ca.row, Gu.row, Se.row, hii, hi1, his, hisi, hx, hx', hg, hg', hq, hqi, hv, hv', hwp, h1, ha1, ha2, hz]) | (refine Also.intro ?_ fun _ => ?_) | (refine Hold.intro fun _ => ?_) | (refine And.intro ?_ ?_))
  have hor : (g.able || !v.ex) = true := by
    cases g1 : g.able
    · cases g2 : v.ex
      · rfl
      · exact absurd ⟨g2, g1⟩ hab
    · rfl
  rw [hor, Bool.and_true] at hok
  have hpass : ∀ (P : Prop), True := fun _ => trivial
  have hL : ∀ (ex ab : Bool), v.ex = ex → g.able = ab → (ex && !ab) = false := by
    intro ex ab h1 h2
    subst h1 h2
    cases g1 : g.able <;> cases g2 : v.ex <;> simp_all
  clear hpass
  generalize hve : v.ex = ve at *
  generalize hge : g.able = ge at *
  have hL := hL ve ge rfl rfl
  have hcase : ve = false ∨ (ve = true ∧ ge = true) := by cases ve <;> cases ge <;> simp_all
  clear hor hab
  rcases hcase with rfl | ⟨rfl, rfl⟩
  · simp -dsimp [hii]
    repeat' (first | omega | (simp -dsimp [E64, ri, cellp, ints, Ca.row, Gu.row, Se.row, hii, hi1, his, hisi, hx, hx', hg, hg', hq, hqi, hv, hv', hve, hge, hwp, h1]) | (refine Also.intro ?_ fun _ => ?_) | (refine Hold.intro fun _ => ?_) | (refine And.intro ?_ ?_))
    refine awp_loop [49, 50, 51, 54, 55, 56, 57, 58, 59, 60, 61, 62, 6, 52, 53, 8] (fun k : { k : Nat // k ≤ i ∧ ∀ j, j < k → s.getD j 0 ≠ q } => [(8, (true, .int .i64 k.1))]) (fun _ => hps [(6403, { base := 0, blks := [{ z := 6, els := [c.row], ty := 49 }] })] noH) (fun k => i - k.1) ⟨0, by omega, fun _ h => by omega⟩ ?_ ?_ ?_
    · simp [okAll, okv]
    · exact (by (try simp -dsimp only [hpush_noH, hpush_hps, hps_over]); refine hle_hps ?_; simp -dsimp [allK, Ca.row]; repeat' (first | (refine And.intro ?_ ?_) | (refine sLe.same ?_ ?_ <;> (simp; done)) | (refine sLe.clear ?_ ?_ <;> (first | (simp; done) | (simp; omega))) | (refine sLe.drop 1 ?_ ?_ ?_ <;> (simp; done))))
    rintro ⟨k, hk, hal⟩
    dsimp only
    by_cases hk1 : k < i
    · have hki : (k : Int) < i := by omega
      have hks : k < s.length := by omega
      have hksi : (k : Int) < s.length := by omega
      have wk : IntKind.wrap .i64 ((k : Int) + 1) = (k + 1 : Nat) := wrap_id (by omega) (by omega)
      obtain ⟨y, hy⟩ : ∃ y, s[k]? = some y := ⟨_, List.getElem?_eq_getElem hks⟩
      have hy' : s[k] = y := (List.getElem?_eq_some_iff.1 hy).2
      have hyd : s.getD k 0 = y := by simp [List.getD, hy]
      by_cases hyq : y = q
      · have hz := right_bad hi1 (by rw [hok, take_con2 hk1 (by omega) (hyd.trans hyq)]; rfl)
        subst hyq
        simp -dsimp [hki]
        repeat' (first | omega | (simp -dsimp [E64, ri, cellp, ints, hki, hk1, hks, hksi, his, hisi, hx, hx', hy, hy', hz]) | (refine Also.intro ?_ fun _ => ?_) | (refine Hold.intro fun _ => ?_) | (refine And.intro ?_ ?_))
      · have hyq' : (y = (q : Int)) = False := eq_false hyq
        simp -dsimp [hki]
        repeat' (first | omega | (simp -dsimp [E64, ri, cellp, ints, hki, hk1, hks, hksi, his, hisi, hx, hx', hy, hy', hyq', wk]) | (refine Also.intro ?_ fun _ => ?_) | (refine Hold.intro fun _ => ?_) | (refine And.intro ?_ ?_))
        refine ⟨k + 1, tle_chain rfl ?_, HLe.refl _, ⟨by omega, fun j hj => ?_⟩, by omega⟩
        · simp [okAll, okv]
        · by_cases hjk : j = k
          · subst hjk; exact fun h => hyq (hyd.symm.trans h)
          · exact hal j (by omega)
    · have hkn : ¬ (k : Int) < i := by omega
      have hkz : k = i := by omega
      subst hkz
      have hsk := take_con hal (by omega)
      simp -dsimp [hkn]
      repeat' (first | omega | (simp -dsimp [E64, ri, cellp, ints, hkn, wi]) | (refine Also.intro ?_ fun _ => ?_) | (refine Hold.intro fun _ => ?_) | (refine And.intro ?_ ?_))
      refine ⟨k + 1, tle_kept (kept_upds rfl (kept_forget rfl (kept_upds rfl kept_base))) ?_, HLe.refl _, ⟨by omega, fun j hj => ?_⟩, by omega⟩
      · simp [okAll, okv]
      · by_cases hjk : j = k
        · subst hjk; rw [hok, hsk]; rfl
        · exact hall j (by omega)
  · simp -dsimp [hii]
    repeat' (first | omega | (simp -dsimp [E64, ri, cellp, ints, Ca.row, Gu.row, Se.row, hii, hi1, his, hisi, hx, hx', hg, hg', hq, hqi, hv, hv', hve, hge, hwp, h1]) | (refine Also.intro ?_ fun _ => ?_) | (refine Hold.intro fun _ => ?_) | (refine And.intro ?_ ?_))
    refine awp_loop [49, 50, 51, 54, 55, 56, 57, 58, 59, 60, 61, 62, 6, 52, 53, 8] (fun k : { k : Nat // k ≤ i ∧ ∀ j, j < k → s.getD j 0 ≠ q } => [(8, (true, .int .i64 k.1))]) (fun _ => hps [(6403, { base := 0, blks := [{ z := 6, els := [c.row], ty := 49 }] })] noH) (fun k => i - k.1) ⟨0, by omega, fun _ h => by omega⟩ ?_ ?_ ?_
    · simp [okAll, okv]
    · exact (by (try simp -dsimp only [hpush_noH, hpush_hps, hps_over]); refine hle_hps ?_; simp -dsimp [allK, Ca.row]; repeat' (first | (refine And.intro ?_ ?_) | (refine sLe.same ?_ ?_ <;> (simp; done)) | (refine sLe.clear ?_ ?_ <;> (first | (simp; done) | (simp; omega))) | (refine sLe.drop 1 ?_ ?_ ?_ <;> (simp; done))))
    rintro ⟨k, hk, hal⟩
    dsimp only
    by_cases hk1 : k < i
    · have hki : (k : Int) < i := by omega
      have hks : k < s.length := by omega
      have hksi : (k : Int) < s.length := by omega
      have wk : IntKind.wrap .i64 ((k : Int) + 1) = (k + 1 : Nat) := wrap_id (by omega) (by omega)
      obtain ⟨y, hy⟩ : ∃ y, s[k]? = some y := ⟨_, List.getElem?_eq_getElem hks⟩
      have hy' : s[k] = y := (List.getElem?_eq_some_iff.1 hy).2
      have hyd : s.getD k 0 = y := by simp [List.getD, hy]
      by_cases hyq : y = q
      · have hz := right_bad hi1 (by rw [hok, take_con2 hk1 (by omega) (hyd.trans hyq)]; rfl)
        subst hyq
        simp -dsimp [hki]
        repeat' (first | omega | (simp -dsimp [E64, ri, cellp, ints, hki, hk1, hks, hksi, his, hisi, hx, hx', hy, hy', hz]) | (refine Also.intro ?_ fun _ => ?_) | (refine Hold.intro fun _ => ?_) | (refine And.intro ?_ ?_))
      · have hyq' : (y = (q : Int)) = False := eq_false hyq
        simp -dsimp [hki]
        repeat' (first | omega | (simp -dsimp [E64, ri, cellp, ints, hki, hk1, hks, hksi, his, hisi, hx, hx', hy, hy', hyq', wk]) | (refine Also.intro ?_ fun _ => ?_) | (refine Hold.intro fun _ => ?_) | (refine And.intro ?_ ?_))
        refine ⟨k + 1, tle_chain rfl ?_, HLe.refl _, ⟨by omega, fun j hj => ?_⟩, by omega⟩
        · simp [okAll, okv]
        · by_cases hjk : j = k
          · subst hjk; exact fun h => hyq (hyd.symm.trans h)
          · exact hal j (by omega)
    · have hkn : ¬ (k : Int) < i := by omega
      have hkz : k = i := by omega
      subst hkz
      have hsk := take_con hal (by omega)
      simp -dsimp [hkn]
      repeat' (first | omega | (simp -dsimp [E64, ri, cellp, ints, hkn, wi]) | (refine Also.intro ?_ fun _ => ?_) | (refine Hold.intro fun _ => ?_) | (refine And.intro ?_ ?_))
      refine ⟨k + 1, tle_kept (kept_upds rfl (kept_forget rfl (kept_upds rfl kept_base))) ?_, HLe.refl _, ⟨by omega, fun j hj => ?_⟩, by omega⟩
      · simp [okAll, okv]
      · by_cases hjk : j = k
        · subst hjk; rw [hok, hsk]; rfl
        · exact hall j (by omega)
theorem ok64 : FnOK Try.prog 64 (.pure rightS) := pure_fn (E := E64) rfl (.cons ok40 .nil) (ok := []) (fn := Try.f64) (by kernel_rfl) (by kernel_rfl) (by kernel_rfl) (by kernel_rfl) rfl (fun _ _ => by simp) b64
end Go.Sx
end
